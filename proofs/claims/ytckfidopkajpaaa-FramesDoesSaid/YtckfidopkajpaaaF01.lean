/-
  Part of the proof: F01. It states what the functions do; no further condition.
-/
import Derived.Test.YtckfidopkajpaaaProg
import Derived.Test.YtckfidopkajpaaaShI
import Derived.KernelRfl
set_option linter.unusedVariables false
set_option linter.unusedSimpArgs false
namespace Go.Proofs.Ytckfidopkajpaaa
set_option linter.unusedVariables false
open Go.Sh
set_option maxRecDepth 100000
noncomputable def tys : List (Nat × Ty) := [(2, (.int .i64)),
  (3, (.int .i64)),
  (4, .bool),
  (22, .sl),
  (24, .ptr),
  (25, (.int .i64)),
  (37, .sl),
  (38, .ptr),
  (42, (.agg (.pair (.int .i64) (.pair (.int .i64) (.pair (.int .i64) (.pair (.int .i64) (.pair (.int .i64) (.pair (.int .i64) .sl)))))))),
  (47, .sl),
  (58, .sl),
  (59, .ptr),
  (60, .ptr),
  (61, .sl),
  (63, (.agg (.pair .sl (.pair (.int .i64) (.pair (.int .i64) (.pair .ptr (.pair .ptr (.pair .sl (.pair (.int .i64) (.int .i64)))))))))),
  (64, .sl),
  (66, (.agg (.pair .sl (.pair .sl (.pair .ptr (.int .i64)))))),
  (67, .ptr),
  (75, (.agg (.pair (.int .i64) (.pair (.int .i64) (.pair (.int .i64) (.pair (.int .i64) (.pair (.int .i64) .ptr))))))),
  (77, .ptr),
  (83, .sl),
  (84, .sl),
  (86, (.agg (.pair (.int .i64) (.pair (.int .i64) (.pair .sl (.pair (.int .i64) (.pair .sl (.int .i64)))))))),
  (97, (.agg (.pair (.int .i64) (.pair .bool (.pair .ptr (.pair (.int .i64) (.pair (.int .i64) (.pair .sl (.pair .sl (.pair (.int .i64) .ptr)))))))))),
  (101, .val),
  (104, (.agg (.pair (.int .i64) (.pair .sl (.pair .sl (.pair (.int .i64) (.pair (.int .i64) (.pair .bool (.int .i64)))))))))]
theorem tysOk : AllN (fun T t => tyFitsB Try.prog T t = true) tys :=
  ⟨(by kernel_rfl : tyFitsB Try.prog 2 (.int .i64) = true),
   (by kernel_rfl : tyFitsB Try.prog 3 (.int .i64) = true),
   (by kernel_rfl : tyFitsB Try.prog 4 .bool = true),
   (by kernel_rfl : tyFitsB Try.prog 22 .sl = true),
   (by kernel_rfl : tyFitsB Try.prog 24 .ptr = true),
   (by kernel_rfl : tyFitsB Try.prog 25 (.int .i64) = true),
   (by kernel_rfl : tyFitsB Try.prog 37 .sl = true),
   (by kernel_rfl : tyFitsB Try.prog 38 .ptr = true),
   (by kernel_rfl : tyFitsB Try.prog 42 (.agg (.pair (.int .i64) (.pair (.int .i64) (.pair (.int .i64) (.pair (.int .i64) (.pair (.int .i64) (.pair (.int .i64) .sl))))))) = true),
   (by kernel_rfl : tyFitsB Try.prog 47 .sl = true),
   (by kernel_rfl : tyFitsB Try.prog 58 .sl = true),
   (by kernel_rfl : tyFitsB Try.prog 59 .ptr = true),
   (by kernel_rfl : tyFitsB Try.prog 60 .ptr = true),
   (by kernel_rfl : tyFitsB Try.prog 61 .sl = true),
   (by kernel_rfl : tyFitsB Try.prog 63 (.agg (.pair .sl (.pair (.int .i64) (.pair (.int .i64) (.pair .ptr (.pair .ptr (.pair .sl (.pair (.int .i64) (.int .i64))))))))) = true),
   (by kernel_rfl : tyFitsB Try.prog 64 .sl = true),
   (by kernel_rfl : tyFitsB Try.prog 66 (.agg (.pair .sl (.pair .sl (.pair .ptr (.int .i64))))) = true),
   (by kernel_rfl : tyFitsB Try.prog 67 .ptr = true),
   (by kernel_rfl : tyFitsB Try.prog 75 (.agg (.pair (.int .i64) (.pair (.int .i64) (.pair (.int .i64) (.pair (.int .i64) (.pair (.int .i64) .ptr)))))) = true),
   (by kernel_rfl : tyFitsB Try.prog 77 .ptr = true),
   (by kernel_rfl : tyFitsB Try.prog 83 .sl = true),
   (by kernel_rfl : tyFitsB Try.prog 84 .sl = true),
   (by kernel_rfl : tyFitsB Try.prog 86 (.agg (.pair (.int .i64) (.pair (.int .i64) (.pair .sl (.pair (.int .i64) (.pair .sl (.int .i64))))))) = true),
   (by kernel_rfl : tyFitsB Try.prog 97 (.agg (.pair (.int .i64) (.pair .bool (.pair .ptr (.pair (.int .i64) (.pair (.int .i64) (.pair .sl (.pair .sl (.pair (.int .i64) .ptr))))))))) = true),
   (by kernel_rfl : tyFitsB Try.prog 101 .val = true),
   (by kernel_rfl : tyFitsB Try.prog 104 (.agg (.pair (.int .i64) (.pair .sl (.pair .sl (.pair (.int .i64) (.pair (.int .i64) (.pair .bool (.int .i64)))))))) = true), trivial⟩
noncomputable def zeros : List (Nat × TV) := [(4, ⟨.bool, false⟩),
  (42, ⟨(.agg (.pair (.int .i64) (.pair (.int .i64) (.pair (.int .i64) (.pair (.int .i64) (.pair (.int .i64) (.pair (.int .i64) .sl))))))), ((0 : Int), (0 : Int), (0 : Int), (0 : Int), (0 : Int), (0 : Int), (Sl.mk none 0 0))⟩),
  (60, ⟨.ptr, none⟩),
  (61, ⟨.sl, (Sl.mk none 0 0)⟩),
  (63, ⟨(.agg (.pair .sl (.pair (.int .i64) (.pair (.int .i64) (.pair .ptr (.pair .ptr (.pair .sl (.pair (.int .i64) (.int .i64))))))))), ((Sl.mk none 0 0), (0 : Int), (0 : Int), none, none, (Sl.mk none 0 0), (0 : Int), (0 : Int))⟩),
  (66, ⟨(.agg (.pair .sl (.pair .sl (.pair .ptr (.int .i64))))), ((Sl.mk none 0 0), (Sl.mk none 0 0), none, (0 : Int))⟩),
  (75, ⟨(.agg (.pair (.int .i64) (.pair (.int .i64) (.pair (.int .i64) (.pair (.int .i64) (.pair (.int .i64) .ptr)))))), ((0 : Int), (0 : Int), (0 : Int), (0 : Int), (0 : Int), none)⟩),
  (86, ⟨(.agg (.pair (.int .i64) (.pair (.int .i64) (.pair .sl (.pair (.int .i64) (.pair .sl (.int .i64))))))), ((0 : Int), (0 : Int), (Sl.mk none 0 0), (0 : Int), (Sl.mk none 0 0), (0 : Int))⟩),
  (97, ⟨(.agg (.pair (.int .i64) (.pair .bool (.pair .ptr (.pair (.int .i64) (.pair (.int .i64) (.pair .sl (.pair .sl (.pair (.int .i64) .ptr))))))))), ((0 : Int), false, none, (0 : Int), (0 : Int), (Sl.mk none 0 0), (Sl.mk none 0 0), (0 : Int), none)⟩),
  (104, ⟨(.agg (.pair (.int .i64) (.pair .sl (.pair .sl (.pair (.int .i64) (.pair (.int .i64) (.pair .bool (.int .i64)))))))), ((0 : Int), (Sl.mk none 0 0), (Sl.mk none 0 0), (0 : Int), (0 : Int), false, (0 : Int))⟩)]
theorem zerosOk : AllN (fun T (z : TV) => ∃ i, Try.prog.info? T = some i ∧ i.zero = some z.v) zeros :=
  ⟨⟨_, (by kernel_rfl : Try.prog.info? 4 = some Try.t4), rfl⟩,
   ⟨_, (by kernel_rfl : Try.prog.info? 42 = some Try.t42), rfl⟩,
   ⟨_, (by kernel_rfl : Try.prog.info? 60 = some Try.t60), rfl⟩,
   ⟨_, (by kernel_rfl : Try.prog.info? 61 = some Try.t61), rfl⟩,
   ⟨_, (by kernel_rfl : Try.prog.info? 63 = some Try.t63), rfl⟩,
   ⟨_, (by kernel_rfl : Try.prog.info? 66 = some Try.t66), rfl⟩,
   ⟨_, (by kernel_rfl : Try.prog.info? 75 = some Try.t75), rfl⟩,
   ⟨_, (by kernel_rfl : Try.prog.info? 86 = some Try.t86), rfl⟩,
   ⟨_, (by kernel_rfl : Try.prog.info? 97 = some Try.t97), rfl⟩,
   ⟨_, (by kernel_rfl : Try.prog.info? 104 = some Try.t104), rfl⟩, trivial⟩
noncomputable def eqs : List (Nat × Ty) := []
theorem eqsOk : AllN (EqOk Try.prog) eqs := trivial
theorem mixed : Try.prog.follows .mixedOrders = true := by kernel_rfl
noncomputable def Cf7_frames_New : Ctx := mkC Try.prog tys zeros eqs [] []
/-- palaverframes.New -/
noncomputable def f7_frames_New (x0 : Int) (x1 : Int) (x2 : Int) : M (Option Addr × Int) :=
  cnd (cond (cond (cond (cond (cond (decide (x0 < (1 : Int))) true (decide (x0 > (64 : Int)))) true (decide (x1 < (16 : Int)))) true (decide (x1 > (4096 : Int)))) true (decide (x2 < (1 : Int)))) true (decide (x2 > (65536 : Int)))) (
  ret (none, (230 : Int))) (
  bnd (newC 63 [.slice none 0 0, .int .i64 x1, .int .i64 x2, .pointer none, .pointer none, .slice none 0 0, .int .i64 (0 : Int), .int .i64 (0 : Int)]) fun (p1 : Addr) =>
  loopM (fun (s2 : Int) =>
  cnd (decide (s2 < x0)) (
  bnd (
  bnd (ordM 7 6 (regionIn 6 Try.f7)) fun (o4 : List Nat) =>
  bnd (ld .sl (Addr.add p1 0)) fun (v5 : Sl) =>
  bnd (runV Try.prog .sl (Instr.makeSlice 22 (.int .i64 x1) (.int .i64 x1))) fun (v6 : Sl) =>
  bnd (
  bnd (chk .sl (Addr.add p1 0) v5) fun _ =>
  ret ()) fun _ =>
  bnd (newC 66 [.slice v6.a v6.len v6.cap, .slice none 0 0, .pointer none, .int .i64 (0 : Int)]) fun (p7 : Addr) =>
  bnd (
  bnd (chk .sl (Addr.add p1 0) v5) fun _ =>
  ret ()) fun _ =>
  bnd (runV Try.prog .sl (Instr.buildSlice 58 1 #[(0, .pointer (some p7))])) fun (v8 : Sl) =>
  bnd (
  bnd (chk .sl (Addr.add p1 0) v5) fun _ =>
  ret ()) fun _ =>
  bnd (runV Try.prog .sl (Builtin.append_ #[58, 58] 58 #[.slice v5.a v5.len v5.cap, .slice v8.a v8.len v8.cap])) fun (v9 : Sl) =>
  bnd (ret ()) fun _ =>
  bnd (wrs (Addr.add p1 0) 0 [.slice v9.a v9.len v9.cap]) fun _ =>
  bnd (ret ()) fun _ =>
  ret ()) fun (s3 : Unit) =>
  ret (Sum.inl (IntKind.wrap .i64 (s2 + (1 : Int))))) (
  ret (Sum.inr ((some p1), (0 : Int))))) (0 : Int))
noncomputable def Af7_frames_New : Ann := (.two .nil (.two (.two .nil (.two (.two .nil .nil) .nil)) (.two .nil (.two (.two .nil (.one (.loop [(36, (.int .i64))] [37, 38, 39, 40, 41, 42, 43, 44, 45, 46, 47, 48, 49, 50, 51] (.two .nil (.two (.two .nil .nil) (.two (.one (.join [] [38, 39, 40, 41, 42, 43, 44, 45, 46, 47, 48, 49, 50] false (.ord 7 [(0, 16382), (0, 16381), (2, 16377), (4, 16371), (8, 16359), (0, 16351), (32, 16287), (64, 16191), (128, 15999), (256, 15615), (528, 14831), (2047, 14334), (4095, 10239), (6143, 3071)] (.o 0 (.o 1 (.o 2 (.o 3 (.o 4 (.o 5 (.o 6 (.o 7 (.o 8 (.o 9 (.o 10 (.o 11 (.o 12 (.o 13 .done))))))))))))))))) .nil)))))) (.two .nil .nil)))))
theorem Cf7_frames_New_ok : Cf7_frames_New.Ok := mkC_ok mixed tysOk zerosOk eqsOk trivial trivial
theorem Ef7_frames_New (x : (Int × (Int × Int))) : evF Cf7_frames_New Try.f7 53 (.pair (.int .i64) (.pair (.int .i64) (.int .i64))) (.tup (.pair .ptr (.int .i64))) Af7_frames_New x = f7_frames_New x.1 x.2.1 x.2.2 := by kernel_rfl
theorem Sf7_frames_New : SoundF Try.prog 7 ⟨(.pair (.int .i64) (.pair (.int .i64) (.int .i64))), (.tup (.pair .ptr (.int .i64))), fun x => f7_frames_New x.1 x.2.1 x.2.2⟩ :=
  soundF_of Cf7_frames_New_ok Try.func7 (by kernel_rfl) (by kernel_rfl) Ef7_frames_New
noncomputable def Cf30_frames_page_marry : Ctx := mkC Try.prog tys zeros eqs [] []
/-- (*palaverframes.page).marry -/
noncomputable def f30_frames_page_marry (x0 : Option Addr) (x1 : Int) : M (Option Addr) :=
  bnd (drf x0) fun (p1 : Addr) =>
  bnd (ld .sl (Addr.add p1 1)) fun (v2 : Sl) =>
  bnd (ix 6 v2 x1) fun (p3 : Addr) =>
  bnd (ld .ptr (Addr.add p3 5)) fun (v4 : Option Addr) =>
  bnd (
  cnd (Option.isNone v4) (
  bnd (newC 97 [.int .i64 (0 : Int), .bool false, .pointer x0, .int .i64 x1, .int .i64 (0 : Int), .slice none 0 0, .slice none 0 0, .int .i64 (0 : Int), .pointer none]) fun (p6 : Addr) =>
  bnd (wrs (Addr.add p3 5) 0 [.pointer (some p6)]) fun _ =>
  ret ()) (
  ret ())) fun (s5 : Unit) =>
  bnd (ld .ptr (Addr.add p3 5)) fun (v7 : Option Addr) =>
  ret v7
noncomputable def Af30_frames_page_marry : Ann := (.two .nil (.two .nil (.two (.two .nil (.join [] [17, 18, 19, 20, 21, 22, 23] false (.two .nil .nil))) (.two .nil .nil))))
theorem Cf30_frames_page_marry_ok : Cf30_frames_page_marry.Ok := mkC_ok mixed tysOk zerosOk eqsOk trivial trivial
theorem Ef30_frames_page_marry (x : (Option Addr × Int)) : evF Cf30_frames_page_marry Try.f30 28 (.pair .ptr (.int .i64)) .ptr Af30_frames_page_marry x = f30_frames_page_marry x.1 x.2 := by kernel_rfl
theorem Sf30_frames_page_marry : SoundF Try.prog 30 ⟨(.pair .ptr (.int .i64)), .ptr, fun x => f30_frames_page_marry x.1 x.2⟩ :=
  soundF_of Cf30_frames_page_marry_ok Try.func30 (by kernel_rfl) (by kernel_rfl) Ef30_frames_page_marry
noncomputable def Cf72_frames_page_sender : Ctx := mkC Try.prog tys zeros eqs [(30, ⟨(.pair .ptr (.int .i64)), .ptr, fun x => f30_frames_page_marry x.1 x.2⟩)] []
/-- (*palaverframes.page).sender -/
noncomputable def f72_frames_page_sender (x0 : Option Addr) (x1 : Int) : M (Option Addr) :=
  cnd (decide (x1 > (0 : Int))) (
  bnd (f30_frames_page_marry x0 (IntKind.wrap .i64 (x1 - (1 : Int)))) fun (r1 : Option Addr) =>
  ret r1) (
  bnd (drf x0) fun (p2 : Addr) =>
  bnd (ld .ptr (Addr.add p2 2)) fun (v3 : Option Addr) =>
  ret v3)
noncomputable def Af72_frames_page_sender : Ann := (.two .nil (.two (.two .nil (.two (.two .nil .nil) .nil)) (.two .nil .nil)))
theorem Cf72_frames_page_sender_ok : Cf72_frames_page_sender.Ok := mkC_ok mixed tysOk zerosOk eqsOk ⟨Sf30_frames_page_marry, trivial⟩ trivial
theorem Ef72_frames_page_sender (x : (Option Addr × Int)) : evF Cf72_frames_page_sender Try.f72 15 (.pair .ptr (.int .i64)) .ptr Af72_frames_page_sender x = f72_frames_page_sender x.1 x.2 := by kernel_rfl
theorem Sf72_frames_page_sender : SoundF Try.prog 72 ⟨(.pair .ptr (.int .i64)), .ptr, fun x => f72_frames_page_sender x.1 x.2⟩ :=
  soundF_of Cf72_frames_page_sender_ok Try.func72 (by kernel_rfl) (by kernel_rfl) Ef72_frames_page_sender
noncomputable def Cf70_frames_page_slots : Ctx := mkC Try.prog tys zeros eqs [] []
/-- (*palaverframes.page).slots -/
noncomputable def f70_frames_page_slots (x0 : Option Addr) (x1 : Option Addr) : M Sl :=
  bnd (drf x1) fun (p1 : Addr) =>
  bnd (ld (.int .i64) (Addr.add p1 1)) fun (v2 : Int) =>
  bnd drawM fun _ =>
  bnd (drf x0) fun (p3 : Addr) =>
  bnd (ld .sl (Addr.add p3 0)) fun (v4 : Sl) =>
  bnd (drf x1) fun (p5 : Addr) =>
  bnd (ld (.int .i64) (Addr.add p5 2)) fun (v6 : Int) =>
  bnd (drf x1) fun (p7 : Addr) =>
  bnd (ld (.int .i64) (Addr.add p7 2)) fun (v8 : Int) =>
  bnd (slc 1 v4 (some (IntKind.wrap .i64 (v2 + (4 : Int)))) (some (IntKind.wrap .i64 ((IntKind.wrap .i64 (v2 + (4 : Int))) + v6))) (some (IntKind.wrap .i64 ((IntKind.wrap .i64 (v2 + (4 : Int))) + v8)))) fun (v9 : Sl) =>
  ret v9
noncomputable def Af70_frames_page_slots : Ann := (.two .nil (.two .nil (.two .nil .nil)))
theorem Cf70_frames_page_slots_ok : Cf70_frames_page_slots.Ok := mkC_ok mixed tysOk zerosOk eqsOk trivial trivial
theorem Ef70_frames_page_slots (x : (Option Addr × Option Addr)) : evF Cf70_frames_page_slots Try.f70 29 (.pair .ptr .ptr) .sl Af70_frames_page_slots x = f70_frames_page_slots x.1 x.2 := by kernel_rfl
theorem Sf70_frames_page_slots : SoundF Try.prog 70 ⟨(.pair .ptr .ptr), .sl, fun x => f70_frames_page_slots x.1 x.2⟩ :=
  soundF_of Cf70_frames_page_slots_ok Try.func70 (by kernel_rfl) (by kernel_rfl) Ef70_frames_page_slots
noncomputable def Cf64_slices_Cloneint64_int64 : Ctx := mkC Try.prog tys zeros eqs [] []
/-- slices.Cloneint64int64 -/
noncomputable def f64_slices_Cloneint64_int64 (x0 : Sl) : M Sl :=
  cnd (Option.isNone x0.a) (
  ret (Sl.mk none 0 0)) (
  bnd (runV Try.prog .sl (Instr.buildSlice 22 0 #[])) fun (v1 : Sl) =>
  bnd (runV Try.prog .sl (Builtin.append_ #[22, 22] 22 #[.slice v1.a v1.len v1.cap, .slice x0.a x0.len x0.cap])) fun (v2 : Sl) =>
  ret v2)
noncomputable def Af64_slices_Cloneint64_int64 : Ann := (.two .nil (.two (.two .nil (.two (.two .nil .nil) .nil)) (.two .nil .nil)))
theorem Cf64_slices_Cloneint64_int64_ok : Cf64_slices_Cloneint64_int64.Ok := mkC_ok mixed tysOk zerosOk eqsOk trivial trivial
theorem Ef64_slices_Cloneint64_int64 (x : Sl) : evF Cf64_slices_Cloneint64_int64 Try.f64 8 .sl .sl Af64_slices_Cloneint64_int64 x = f64_slices_Cloneint64_int64 x := by kernel_rfl
theorem Sf64_slices_Cloneint64_int64 : SoundF Try.prog 64 ⟨.sl, .sl, fun x => f64_slices_Cloneint64_int64 x⟩ :=
  soundF_of Cf64_slices_Cloneint64_int64_ok Try.func64 (by kernel_rfl) (by kernel_rfl) Ef64_slices_Cloneint64_int64
noncomputable def Cf34_frames_page_stack : Ctx := mkC Try.prog tys zeros eqs [] []
/-- (*palaverframes.page).stack -/
noncomputable def f34_frames_page_stack (x0 : Option Addr) (x1 : Option Addr) : M Sl :=
  bnd drawM fun _ =>
  bnd (drf x1) fun (p1 : Addr) =>
  bnd (ld (.int .i64) (Addr.add p1 1)) fun (v2 : Int) =>
  bnd (drf x1) fun (p3 : Addr) =>
  bnd (ld (.int .i64) (Addr.add p3 2)) fun (v4 : Int) =>
  bnd drawM fun _ =>
  bnd (drf x0) fun (p5 : Addr) =>
  bnd (ld .sl (Addr.add p5 0)) fun (v6 : Sl) =>
  bnd (drf x1) fun (p7 : Addr) =>
  bnd (ld (.int .i64) (Addr.add p7 3)) fun (v8 : Int) =>
  bnd (drf x1) fun (p9 : Addr) =>
  bnd (ld (.int .i64) (Addr.add p9 4)) fun (v10 : Int) =>
  bnd (slc 1 v6 (some (IntKind.wrap .i64 ((IntKind.wrap .i64 (v2 + (4 : Int))) + v4))) (some (IntKind.wrap .i64 ((IntKind.wrap .i64 ((IntKind.wrap .i64 (v2 + (4 : Int))) + v4)) + v8))) (some (IntKind.wrap .i64 ((IntKind.wrap .i64 ((IntKind.wrap .i64 (v2 + (4 : Int))) + v4)) + v10)))) fun (v11 : Sl) =>
  ret v11
noncomputable def Af34_frames_page_stack : Ann := (.two .nil (.two .nil (.two .nil .nil)))
theorem Cf34_frames_page_stack_ok : Cf34_frames_page_stack.Ok := mkC_ok mixed tysOk zerosOk eqsOk trivial trivial
theorem Ef34_frames_page_stack (x : (Option Addr × Option Addr)) : evF Cf34_frames_page_stack Try.f34 34 (.pair .ptr .ptr) .sl Af34_frames_page_stack x = f34_frames_page_stack x.1 x.2 := by kernel_rfl
theorem Sf34_frames_page_stack : SoundF Try.prog 34 ⟨(.pair .ptr .ptr), .sl, fun x => f34_frames_page_stack x.1 x.2⟩ :=
  soundF_of Cf34_frames_page_stack_ok Try.func34 (by kernel_rfl) (by kernel_rfl) Ef34_frames_page_stack
noncomputable def Cf71_frames_page_divorce : Ctx := mkC Try.prog tys zeros eqs [(30, ⟨(.pair .ptr (.int .i64)), .ptr, fun x => f30_frames_page_marry x.1 x.2⟩), (34, ⟨(.pair .ptr .ptr), .sl, fun x => f34_frames_page_stack x.1 x.2⟩), (64, ⟨.sl, .sl, fun x => f64_slices_Cloneint64_int64 x⟩), (70, ⟨(.pair .ptr .ptr), .sl, fun x => f70_frames_page_slots x.1 x.2⟩), (72, ⟨(.pair .ptr (.int .i64)), .ptr, fun x => f72_frames_page_sender x.1 x.2⟩)] []
/-- (*palaverframes.page).divorce -/
noncomputable def f71_frames_page_divorce (x0 : Option Addr) (x1 : Int) : M Unit :=
  loopM (fun (s1 : Int) =>
  bnd (drf x0) fun (p2 : Addr) =>
  bnd (ld .sl (Addr.add p2 1)) fun (v3 : Sl) =>
  cnd (decide (s1 < (v3.len : Int))) (
  bnd (
  bnd (ordM 71 3 (regionIn 3 Try.f71)) fun (o5 : List Nat) =>
  bnd (drf x0) fun (p6 : Addr) =>
  bnd (ld .sl (Addr.add p6 1)) fun (v7 : Sl) =>
  bnd (ix 6 v7 s1) fun (p8 : Addr) =>
  bnd (f30_frames_page_marry x0 s1) fun (r9 : Option Addr) =>
  bnd (
  bnd (chk .sl (Addr.add p6 1) v7) fun _ =>
  ret ()) fun _ =>
  ret (r9, p8)) fun (s4 : (Option Addr × Addr)) =>
  bnd (
  bnd (ordM 71 4 (regionIn 4 Try.f71)) fun (o11 : List Nat) =>
  bnd (ld (.int .i64) (Addr.add s4.2 0)) fun (v12 : Int) =>
  bnd (ld (.int .i64) (Addr.add s4.2 4)) fun (v13 : Int) =>
  bnd (f72_frames_page_sender x0 s1) fun (r14 : Option Addr) =>
  bnd (
  bnd (chk (.int .i64) (Addr.add s4.2 4) v13) fun _ =>
  bnd (chk (.int .i64) (Addr.add s4.2 0) v12) fun _ =>
  ret ()) fun _ =>
  bnd (drf s4.1) fun (p15 : Addr) =>
  bnd (wrs (Addr.add p15 4) 0 [.int .i64 v12]) fun _ =>
  bnd (ret ()) fun _ =>
  bnd (drf s4.1) fun (p16 : Addr) =>
  bnd (wrs (Addr.add p16 7) 0 [.int .i64 v13]) fun _ =>
  bnd (ret ()) fun _ =>
  bnd (drf s4.1) fun (p17 : Addr) =>
  bnd (wrs (Addr.add p17 8) 0 [.pointer r14]) fun _ =>
  bnd (ret ()) fun _ =>
  ret ()) fun (s10 : Unit) =>
  bnd (f70_frames_page_slots x0 (some s4.2)) fun (r18 : Sl) =>
  bnd (f64_slices_Cloneint64_int64 r18) fun (r19 : Sl) =>
  bnd (f34_frames_page_stack x0 (some s4.2)) fun (r20 : Sl) =>
  bnd (f64_slices_Cloneint64_int64 r20) fun (r21 : Sl) =>
  bnd (drf s4.1) fun (p22 : Addr) =>
  bnd (wrs (Addr.add p22 5) 0 [.slice r19.a r19.len r19.cap]) fun _ =>
  bnd (drf s4.1) fun (p23 : Addr) =>
  bnd (wrs (Addr.add p23 6) 0 [.slice r21.a r21.len r21.cap]) fun _ =>
  ret (Sum.inl (IntKind.wrap .i64 (s1 + (1 : Int))))) (
  bnd (
  loopM (fun (s24 : Int) =>
  bnd (drf x0) fun (p25 : Addr) =>
  bnd (ld .sl (Addr.add p25 1)) fun (v26 : Sl) =>
  cnd (decide (s24 < (v26.len : Int))) (
  bnd (drf x0) fun (p27 : Addr) =>
  bnd (ld .sl (Addr.add p27 1)) fun (v28 : Sl) =>
  bnd (ix 6 v28 s24) fun (p29 : Addr) =>
  bnd (ld .ptr (Addr.add p29 5)) fun (v30 : Option Addr) =>
  bnd (drf v30) fun (p31 : Addr) =>
  bnd (wrs (Addr.add p31 2) 0 [.pointer none]) fun _ =>
  ret (Sum.inl (IntKind.wrap .i64 (s24 + (1 : Int))))) (
  bnd (
  bnd (drf x0) fun (p32 : Addr) =>
  bnd (ld .sl (Addr.add p32 1)) fun (v33 : Sl) =>
  bnd (slc 6 v33 none (some x1) none) fun (v34 : Sl) =>
  bnd (drf x0) fun (p35 : Addr) =>
  bnd (wrs (Addr.add p35 1) 0 [.slice v34.a v34.len v34.cap]) fun _ =>
  ret ()) fun r36 =>
  ret (Sum.inr r36))) x1) fun r37 =>
  ret (Sum.inr r37))) x1
noncomputable def Af71_frames_page_divorce : Ann := (.two (.two .nil (.one (.loop [(4, (.int .i64))] [5, 6, 9, 10, 11, 12, 13, 14, 15, 16, 17, 18, 19, 20, 21, 22, 23, 24, 25, 26, 27, 28, 29, 30, 31, 32, 33, 34, 35, 36, 37, 38, 39, 40, 41, 42, 43, 44, 45, 46, 47, 48, 49, 50, 51, 52, 53, 54, 55, 56, 57, 58, 59, 60] (.two (.two .nil (.two .nil .nil)) (.two (.one (.two (.join [(5, .ptr), (6, .adr)] [18, 19, 20, 21, 22, 23, 24, 25, 26] false (.ord 71 [(0, 2046), (0, 2045), (3, 2040), (0, 2039), (8, 2023), (16, 1999), (32, 1951), (0, 1919), (192, 1599), (7, 1531), (1023, 767)] (.o 0 (.o 1 (.o 3 (.o 4 (.o 5 (.o 6 (.o 7 (.o 8 (.o 2 (.o 9 (.o 10 .done))))))))))))) (.two (.join [] [27, 28, 29, 30, 31, 32, 33, 34, 35, 36, 37, 38, 39, 40, 41, 42, 43, 44, 45, 46] false (.ord 71 [(0, 8388606), (0, 8388605), (0, 8388603), (0, 8388599), (8, 8388583), (16, 8388559), (32, 8388511), (0, 8388479), (128, 8388223), (256, 8387839), (512, 8387071), (0, 8386559), (0, 8384511), (6144, 8374271), (9337, 8372222), (25721, 8339455), (42105, 8290239), (124923, 8257533), (255995, 7995391), (387067, 7601151), (1048575, 7340027), (2097151, 5242879), (3145727, 2088959)] (.o 0 (.o 1 (.o 2 (.o 3 (.o 4 (.o 5 (.o 6 (.o 7 (.o 8 (.o 9 (.o 10 (.o 11 (.o 12 (.o 13 (.o 14 (.o 15 (.o 16 (.o 17 (.o 18 (.o 19 (.o 20 (.o 21 (.o 22 .done))))))))))))))))))))))))) .nil))) .nil))))) (.two (.two .nil (.one (.loop [(7, (.int .i64))] [62, 63, 64, 65, 66, 67, 68, 69, 70, 71, 72, 73, 74, 75, 76, 77, 78, 79, 80] (.two (.two .nil (.two .nil .nil)) (.two (.one .nil) .nil))))) .nil))
theorem Cf71_frames_page_divorce_ok : Cf71_frames_page_divorce.Ok := mkC_ok mixed tysOk zerosOk eqsOk ⟨Sf30_frames_page_marry, Sf34_frames_page_stack, Sf64_slices_Cloneint64_int64, Sf70_frames_page_slots, Sf72_frames_page_sender, trivial⟩ trivial
theorem Ef71_frames_page_divorce (x : (Option Addr × Int)) : evF Cf71_frames_page_divorce Try.f71 90 (.pair .ptr (.int .i64)) (.tup .unit) Af71_frames_page_divorce x = f71_frames_page_divorce x.1 x.2 := by kernel_rfl
theorem Sf71_frames_page_divorce : SoundF Try.prog 71 ⟨(.pair .ptr (.int .i64)), (.tup .unit), fun x => f71_frames_page_divorce x.1 x.2⟩ :=
  soundF_of Cf71_frames_page_divorce_ok Try.func71 (by kernel_rfl) (by kernel_rfl) Ef71_frames_page_divorce
noncomputable def Cf33_frames_Stack_use : Ctx := mkC Try.prog tys zeros eqs [] []
/-- (*palaverframes.Stack).use -/
noncomputable def f33_frames_Stack_use (x0 : Option Addr) (x1 : Option Addr) : M Unit :=
  bnd (drf x0) fun (p1 : Addr) =>
  bnd (ld (.int .i64) (Addr.add p1 7)) fun (v2 : Int) =>
  bnd (drf x0) fun (p3 : Addr) =>
  bnd (wrs (Addr.add p3 7) 0 [.int .i64 (IntKind.wrap .i64 (v2 + (1 : Int)))]) fun _ =>
  bnd (drf x0) fun (p4 : Addr) =>
  bnd (ld (.int .i64) (Addr.add p4 7)) fun (v5 : Int) =>
  bnd (drf x1) fun (p6 : Addr) =>
  bnd (wrs (Addr.add p6 3) 0 [.int .i64 v5]) fun _ =>
  bnd (drf x0) fun (p7 : Addr) =>
  bnd (wrs (Addr.add p7 3) 0 [.pointer x1]) fun _ =>
  bnd (drf x0) fun (p8 : Addr) =>
  bnd (wrs (Addr.add p8 4) 0 [.pointer none]) fun _ =>
  ret ()
noncomputable def Af33_frames_Stack_use : Ann := (.two .nil (.two .nil .nil))
theorem Cf33_frames_Stack_use_ok : Cf33_frames_Stack_use.Ok := mkC_ok mixed tysOk zerosOk eqsOk trivial trivial
theorem Ef33_frames_Stack_use (x : (Option Addr × Option Addr)) : evF Cf33_frames_Stack_use Try.f33 25 (.pair .ptr .ptr) (.tup .unit) Af33_frames_Stack_use x = f33_frames_Stack_use x.1 x.2 := by kernel_rfl
theorem Sf33_frames_Stack_use : SoundF Try.prog 33 ⟨(.pair .ptr .ptr), (.tup .unit), fun x => f33_frames_Stack_use x.1 x.2⟩ :=
  soundF_of Cf33_frames_Stack_use_ok Try.func33 (by kernel_rfl) (by kernel_rfl) Ef33_frames_Stack_use
noncomputable def Cf69_frames_Stack_free_1 : Ctx := mkC Try.prog tys zeros eqs [] []
/-- (*palaverframes.Stack).free$1 -/
noncomputable def f69_frames_Stack_free_1 (x0 : Option Addr) (x1 : Option Addr) : M Int :=
  bnd drawM fun _ =>
  bnd (drf x0) fun (p1 : Addr) =>
  bnd (ld (.int .i64) (Addr.add p1 3)) fun (v2 : Int) =>
  bnd (drf x1) fun (p3 : Addr) =>
  bnd (ld (.int .i64) (Addr.add p3 3)) fun (v4 : Int) =>
  bnd (drf x0) fun (p5 : Addr) =>
  bnd (ld .sl (Addr.add p5 1)) fun (v6 : Sl) =>
  bnd (
  cnd ((v6.len : Int) == (0 : Int)) (
  ret (-1 : Int)) (
  ret v2)) fun (s7 : Int) =>
  bnd (drf x1) fun (p8 : Addr) =>
  bnd (ld .sl (Addr.add p8 1)) fun (v9 : Sl) =>
  bnd (
  cnd ((v9.len : Int) == (0 : Int)) (
  ret (-1 : Int)) (
  ret v4)) fun (s10 : Int) =>
  ret (IntKind.wrap .i64 (s7 - s10))
noncomputable def Af69_frames_Stack_free_1 : Ann := (.two .nil (.two .nil (.two (.two .nil (.join [(5, (.int .i64))] [] false (.two .nil .nil))) (.two (.two .nil (.join [(6, (.int .i64))] [] false (.two .nil .nil))) (.two .nil .nil)))))
theorem Cf69_frames_Stack_free_1_ok : Cf69_frames_Stack_free_1.Ok := mkC_ok mixed tysOk zerosOk eqsOk trivial trivial
theorem Ef69_frames_Stack_free_1 (x : (Option Addr × Option Addr)) : evF Cf69_frames_Stack_free_1 Try.f69 30 (.pair .ptr .ptr) (.int .i64) Af69_frames_Stack_free_1 x = f69_frames_Stack_free_1 x.1 x.2 := by kernel_rfl
theorem Sf69_frames_Stack_free_1 : SoundF Try.prog 69 ⟨(.pair .ptr .ptr), (.int .i64), fun x => f69_frames_Stack_free_1 x.1 x.2⟩ :=
  soundF_of Cf69_frames_Stack_free_1_ok Try.func69 (by kernel_rfl) (by kernel_rfl) Ef69_frames_Stack_free_1
noncomputable def Cf68_frames_page : Ctx := mkC Try.prog tys zeros eqs [(69, ⟨(.pair .ptr .ptr), (.int .i64), fun x => f69_frames_Stack_free_1 x.1 x.2⟩)] []
/-- slices.MinFunc*palaverframes.page*palaverframes.page -/
noncomputable def f68_frames_page (x0 : Sl) (x1 : Value) : M (Option Addr) :=
  bnd (
  cnd (decide ((x0.len : Int) < (1 : Int))) (
  fail) (
  ret ())) fun (s1 : Unit) =>
  bnd (ix 1 x0 (0 : Int)) fun (p2 : Addr) =>
  bnd (ld .ptr p2) fun (v3 : Option Addr) =>
  loopM (fun (s4 : (Option Addr × Int)) =>
  cnd (decide (s4.2 < (x0.len : Int))) (
  bnd (ix 1 x0 s4.2) fun (p5 : Addr) =>
  bnd (ld .ptr p5) fun (v6 : Option Addr) =>
  bnd (callV Cf68_frames_page (.int .i64) x1 [⟨.ptr, v6⟩, ⟨.ptr, s4.1⟩]) fun (r7 : Int) =>
  bnd (
  cnd (decide (r7 < (0 : Int))) (
  bnd (ix 1 x0 s4.2) fun (p9 : Addr) =>
  bnd (ld .ptr p9) fun (v10 : Option Addr) =>
  ret v10) (
  ret s4.1)) fun (s8 : Option Addr) =>
  ret (Sum.inl (s8, (IntKind.wrap .i64 (s4.2 + (1 : Int)))))) (
  ret (Sum.inr s4.1))) (v3, (1 : Int))
noncomputable def Af68_frames_page : Ann := (.two .nil (.two (.two .nil (.join [] [10] false (.two .nil .nil))) (.two .nil (.two (.two .nil (.one (.loop [(5, .ptr), (6, (.int .i64))] [14, 15, 16, 17, 18, 19, 20, 21, 22, 23, 24, 25, 26, 27, 28, 29, 30, 31] (.two (.two .nil (.two .nil .nil)) (.two (.one (.two .nil (.join [(5, .ptr)] [28, 29, 30, 31] false (.two .nil .nil)))) .nil))))) (.two .nil .nil)))))
theorem Cf68_frames_page_ok : Cf68_frames_page.Ok := mkC_ok mixed tysOk zerosOk eqsOk ⟨Sf69_frames_Stack_free_1, trivial⟩ trivial
theorem Ef68_frames_page (x : (Sl × Value)) : evF Cf68_frames_page Try.f68 33 (.pair .sl .val) .ptr Af68_frames_page x = f68_frames_page x.1 x.2 := by kernel_rfl
theorem Sf68_frames_page : SoundF Try.prog 68 ⟨(.pair .sl .val), .ptr, fun x => f68_frames_page x.1 x.2⟩ :=
  soundF_of Cf68_frames_page_ok Try.func68 (by kernel_rfl) (by kernel_rfl) Ef68_frames_page
noncomputable def Cf61_frames_Stack_part : Ctx := mkC Try.prog tys zeros eqs [(30, ⟨(.pair .ptr (.int .i64)), .ptr, fun x => f30_frames_page_marry x.1 x.2⟩), (71, ⟨(.pair .ptr (.int .i64)), (.tup .unit), fun x => f71_frames_page_divorce x.1 x.2⟩)] []
/-- (*palaverframes.Stack).part -/
noncomputable def f61_frames_Stack_part (x0 : Option Addr) (x1 : Option Addr) (x2 : Int) : M Unit :=
  bnd (drf x0) fun (p1 : Addr) =>
  bnd (ld .ptr (Addr.add p1 3)) fun (v2 : Option Addr) =>
  bnd (runV Try.prog .bool (binOp .eql 59 (.pointer x1) (.pointer v2))) fun (v3 : Bool) =>
  bnd (
  cnd v3 (
  bnd (drf x1) fun (p4 : Addr) =>
  bnd (ld .sl (Addr.add p4 1)) fun (v5 : Sl) =>
  ret (decide (x2 < (v5.len : Int)))) (
  ret false)) fun (b6 : Bool) =>
  bnd (
  cnd b6 (
  bnd (drf x1) fun (p8 : Addr) =>
  bnd (ld .sl (Addr.add p8 1)) fun (v9 : Sl) =>
  bnd (f30_frames_page_marry x1 (IntKind.wrap .i64 ((v9.len : Int) - (1 : Int)))) fun (r10 : Option Addr) =>
  ret r10) (
  ret none)) fun (s7 : Option Addr) =>
  bnd (f71_frames_page_divorce x1 x2) fun (r11 : Unit) =>
  bnd (
  cnd (!(Option.isNone s7)) (
  bnd (drf x0) fun (p13 : Addr) =>
  bnd (wrs (Addr.add p13 3) 0 [.pointer none]) fun _ =>
  bnd (drf x0) fun (p14 : Addr) =>
  bnd (wrs (Addr.add p14 4) 0 [.pointer s7]) fun _ =>
  ret ()) (
  ret ())) fun (s12 : Unit) =>
  ret ()
noncomputable def Af61_frames_Stack_part : Ann := (.two .nil (.two (.two .nil (.join [(6, .ptr)] [22, 23, 24, 25, 26, 27, 28, 29] false (.two .nil .nil))) (.two .nil (.two .nil (.join [] [35, 36, 37, 38, 39, 40, 41] false (.two .nil .nil))))))
theorem Cf61_frames_Stack_part_ok : Cf61_frames_Stack_part.Ok := mkC_ok mixed tysOk zerosOk eqsOk ⟨Sf30_frames_page_marry, Sf71_frames_page_divorce, trivial⟩ trivial
theorem Ef61_frames_Stack_part (x : (Option Addr × (Option Addr × Int))) : evF Cf61_frames_Stack_part Try.f61 42 (.pair .ptr (.pair .ptr (.int .i64))) (.tup .unit) Af61_frames_Stack_part x = f61_frames_Stack_part x.1 x.2.1 x.2.2 := by kernel_rfl
theorem Sf61_frames_Stack_part : SoundF Try.prog 61 ⟨(.pair .ptr (.pair .ptr (.int .i64))), (.tup .unit), fun x => f61_frames_Stack_part x.1 x.2.1 x.2.2⟩ :=
  soundF_of Cf61_frames_Stack_part_ok Try.func61 (by kernel_rfl) (by kernel_rfl) Ef61_frames_Stack_part
noncomputable def Cf31_frames_Stack_free : Ctx := mkC Try.prog tys zeros eqs [(61, ⟨(.pair .ptr (.pair .ptr (.int .i64))), (.tup .unit), fun x => f61_frames_Stack_part x.1 x.2.1 x.2.2⟩), (68, ⟨(.pair .sl .val), .ptr, fun x => f68_frames_page x.1 x.2⟩)] []
/-- (*palaverframes.Stack).free -/
noncomputable def f31_frames_Stack_free (x0 : Option Addr) : M (Option Addr) :=
  bnd (drf x0) fun (p1 : Addr) =>
  bnd (ld .sl (Addr.add p1 0)) fun (v2 : Sl) =>
  bnd (f68_frames_page v2 (Value.func (.func 69) #[] #[])) fun (r3 : Option Addr) =>
  bnd (f61_frames_Stack_part x0 r3 (0 : Int)) fun (r4 : Unit) =>
  ret r3
noncomputable def Af31_frames_Stack_free : Ann := (.two .nil (.two .nil (.two .nil (.two .nil .nil))))
theorem Cf31_frames_Stack_free_ok : Cf31_frames_Stack_free.Ok := mkC_ok mixed tysOk zerosOk eqsOk ⟨Sf61_frames_Stack_part, Sf68_frames_page, trivial⟩ trivial
theorem Ef31_frames_Stack_free (x : Option Addr) : evF Cf31_frames_Stack_free Try.f31 13 .ptr .ptr Af31_frames_Stack_free x = f31_frames_Stack_free x := by kernel_rfl
theorem Sf31_frames_Stack_free : SoundF Try.prog 31 ⟨.ptr, .ptr, fun x => f31_frames_Stack_free x⟩ :=
  soundF_of Cf31_frames_Stack_free_ok Try.func31 (by kernel_rfl) (by kernel_rfl) Ef31_frames_Stack_free
noncomputable def Cf66_frames_page_last : Ctx := mkC Try.prog tys zeros eqs [] []
/-- (*palaverframes.page).last -/
noncomputable def f66_frames_page_last (x0 : Option Addr) : M (Option Addr) :=
  bnd drawM fun _ =>
  bnd (drf x0) fun (p1 : Addr) =>
  bnd (ld .sl (Addr.add p1 1)) fun (v2 : Sl) =>
  bnd (drf x0) fun (p3 : Addr) =>
  bnd (ld .sl (Addr.add p3 1)) fun (v4 : Sl) =>
  bnd (ix 6 v2 (IntKind.wrap .i64 ((v4.len : Int) - (1 : Int)))) fun (p5 : Addr) =>
  ret (some p5)
noncomputable def Af66_frames_page_last : Ann := (.two .nil (.two .nil .nil))
theorem Cf66_frames_page_last_ok : Cf66_frames_page_last.Ok := mkC_ok mixed tysOk zerosOk eqsOk trivial trivial
theorem Ef66_frames_page_last (x : Option Addr) : evF Cf66_frames_page_last Try.f66 14 .ptr .ptr Af66_frames_page_last x = f66_frames_page_last x := by kernel_rfl
theorem Sf66_frames_page_last : SoundF Try.prog 66 ⟨.ptr, .ptr, fun x => f66_frames_page_last x⟩ :=
  soundF_of Cf66_frames_page_last_ok Try.func66 (by kernel_rfl) (by kernel_rfl) Ef66_frames_page_last
noncomputable def Cf67_frames_frame_end : Ctx := mkC Try.prog tys zeros eqs [] []
/-- (*palaverframes.frame).end -/
noncomputable def f67_frames_frame_end (x0 : Option Addr) : M Int :=
  bnd drawM fun _ =>
  bnd (drf x0) fun (p1 : Addr) =>
  bnd (ld (.int .i64) (Addr.add p1 1)) fun (v2 : Int) =>
  bnd (drf x0) fun (p3 : Addr) =>
  bnd (ld (.int .i64) (Addr.add p3 2)) fun (v4 : Int) =>
  bnd (drf x0) fun (p5 : Addr) =>
  bnd (ld (.int .i64) (Addr.add p5 4)) fun (v6 : Int) =>
  ret (IntKind.wrap .i64 ((IntKind.wrap .i64 ((IntKind.wrap .i64 (v2 + (4 : Int))) + v4)) + v6))
noncomputable def Af67_frames_frame_end : Ann := (.two .nil (.two .nil .nil))
theorem Cf67_frames_frame_end_ok : Cf67_frames_frame_end.Ok := mkC_ok mixed tysOk zerosOk eqsOk trivial trivial
theorem Ef67_frames_frame_end (x : Option Addr) : evF Cf67_frames_frame_end Try.f67 18 .ptr (.int .i64) Af67_frames_frame_end x = f67_frames_frame_end x := by kernel_rfl
theorem Sf67_frames_frame_end : SoundF Try.prog 67 ⟨.ptr, (.int .i64), fun x => f67_frames_frame_end x⟩ :=
  soundF_of Cf67_frames_frame_end_ok Try.func67 (by kernel_rfl) (by kernel_rfl) Ef67_frames_frame_end
noncomputable def Cf29_frames_page_top : Ctx := mkC Try.prog tys zeros eqs [(66, ⟨.ptr, .ptr, fun x => f66_frames_page_last x⟩), (67, ⟨.ptr, (.int .i64), fun x => f67_frames_frame_end x⟩)] []
/-- (*palaverframes.page).top -/
noncomputable def f29_frames_page_top (x0 : Option Addr) : M Int :=
  bnd (drf x0) fun (p1 : Addr) =>
  bnd (ld .sl (Addr.add p1 1)) fun (v2 : Sl) =>
  cnd ((v2.len : Int) == (0 : Int)) (
  ret (0 : Int)) (
  bnd (f66_frames_page_last x0) fun (r3 : Option Addr) =>
  bnd (f67_frames_frame_end r3) fun (r4 : Int) =>
  ret r4)
noncomputable def Af29_frames_page_top : Ann := (.two .nil (.two (.two .nil (.two (.two .nil .nil) .nil)) (.two .nil .nil)))
theorem Cf29_frames_page_top_ok : Cf29_frames_page_top.Ok := mkC_ok mixed tysOk zerosOk eqsOk ⟨Sf66_frames_page_last, Sf67_frames_frame_end, trivial⟩ trivial
theorem Ef29_frames_page_top (x : Option Addr) : evF Cf29_frames_page_top Try.f29 12 .ptr (.int .i64) Af29_frames_page_top x = f29_frames_page_top x := by kernel_rfl
theorem Sf29_frames_page_top : SoundF Try.prog 29 ⟨.ptr, (.int .i64), fun x => f29_frames_page_top x⟩ :=
  soundF_of Cf29_frames_page_top_ok Try.func29 (by kernel_rfl) (by kernel_rfl) Ef29_frames_page_top
noncomputable def Cf32_frames_page_lay : Ctx := mkC Try.prog tys zeros eqs [(29, ⟨.ptr, (.int .i64), fun x => f29_frames_page_top x⟩), (34, ⟨(.pair .ptr .ptr), .sl, fun x => f34_frames_page_stack x.1 x.2⟩), (66, ⟨.ptr, .ptr, fun x => f66_frames_page_last x⟩), (70, ⟨(.pair .ptr .ptr), .sl, fun x => f70_frames_page_slots x.1 x.2⟩)] []
/-- (*palaverframes.page).lay -/
noncomputable def f32_frames_page_lay (x0 : Option Addr) (x1 : Int) (x2 : Sl) (x3 : Sl) (x4 : Int) (x5 : Option Addr) : M (Option Addr) :=
  bnd (f29_frames_page_top x0) fun (r1 : Int) =>
  bnd (newC 75 [.int .i64 (0 : Int), .int .i64 (0 : Int), .int .i64 (0 : Int), .int .i64 (0 : Int), .int .i64 (0 : Int), .pointer none]) fun (p2 : Addr) =>
  bnd (wrs p2 0 [.int .i64 x1, .int .i64 r1, .int .i64 (x2.len : Int), .int .i64 (x3.len : Int), .int .i64 x4, .pointer x5]) fun _ =>
  bnd (
  bnd (ordM 32 2 (regionIn 2 Try.f32)) fun (o4 : List Nat) =>
  bnd (drf x0) fun (p5 : Addr) =>
  bnd (ld .sl (Addr.add p5 1)) fun (v6 : Sl) =>
  bnd (ld (.agg (.pair (.int .i64) (.pair (.int .i64) (.pair (.int .i64) (.pair (.int .i64) (.pair (.int .i64) .ptr)))))) p2) fun (v7 : (Int × (Int × (Int × (Int × (Int × Option Addr)))))) =>
  bnd (runV Try.prog .sl (Instr.buildSlice 64 1 #[(0, .agg #[.int .i64 v7.1, .int .i64 v7.2.1, .int .i64 v7.2.2.1, .int .i64 v7.2.2.2.1, .int .i64 v7.2.2.2.2.1, .pointer v7.2.2.2.2.2])])) fun (v8 : Sl) =>
  bnd (
  bnd (chk .sl (Addr.add p5 1) v6) fun _ =>
  ret ()) fun _ =>
  bnd (runV Try.prog .sl (Builtin.append_ #[64, 64] 64 #[.slice v6.a v6.len v6.cap, .slice v8.a v8.len v8.cap])) fun (v9 : Sl) =>
  bnd (ret ()) fun _ =>
  bnd (drf x0) fun (p10 : Addr) =>
  bnd (wrs (Addr.add p10 1) 0 [.slice v9.a v9.len v9.cap]) fun _ =>
  bnd (ret ()) fun _ =>
  ret ()) fun (s3 : Unit) =>
  bnd (f66_frames_page_last x0) fun (r11 : Option Addr) =>
  bnd (f70_frames_page_slots x0 r11) fun (r12 : Sl) =>
  bnd (runV Try.prog (.int .i64) (Builtin.copy_ #[22, 22] 3 #[.slice r12.a r12.len r12.cap, .slice x2.a x2.len x2.cap])) fun (v13 : Int) =>
  bnd (f34_frames_page_stack x0 r11) fun (r14 : Sl) =>
  bnd (runV Try.prog (.int .i64) (Builtin.copy_ #[22, 22] 3 #[.slice r14.a r14.len r14.cap, .slice x3.a x3.len x3.cap])) fun (v15 : Int) =>
  ret r11
noncomputable def Af32_frames_page_lay : Ann := (.two .nil (.two .nil (.two (.join [] [25, 26, 27, 28, 29, 30, 31, 32, 33, 34] false (.ord 32 [(0, 2046), (0, 2045), (2, 2041), (4, 2035), (8, 2023), (0, 2015), (32, 1951), (80, 1839), (255, 1790), (511, 1279), (767, 383)] (.o 0 (.o 1 (.o 2 (.o 3 (.o 4 (.o 5 (.o 6 (.o 7 (.o 8 (.o 9 (.o 10 .done))))))))))))) (.two .nil (.two .nil (.two .nil (.two .nil .nil)))))))
theorem Cf32_frames_page_lay_ok : Cf32_frames_page_lay.Ok := mkC_ok mixed tysOk zerosOk eqsOk ⟨Sf29_frames_page_top, Sf34_frames_page_stack, Sf66_frames_page_last, Sf70_frames_page_slots, trivial⟩ trivial
theorem Ef32_frames_page_lay (x : (Option Addr × (Int × (Sl × (Sl × (Int × Option Addr)))))) : evF Cf32_frames_page_lay Try.f32 48 (.pair .ptr (.pair (.int .i64) (.pair .sl (.pair .sl (.pair (.int .i64) .ptr))))) .ptr Af32_frames_page_lay x = f32_frames_page_lay x.1 x.2.1 x.2.2.1 x.2.2.2.1 x.2.2.2.2.1 x.2.2.2.2.2 := by kernel_rfl
theorem Sf32_frames_page_lay : SoundF Try.prog 32 ⟨(.pair .ptr (.pair (.int .i64) (.pair .sl (.pair .sl (.pair (.int .i64) .ptr))))), .ptr, fun x => f32_frames_page_lay x.1 x.2.1 x.2.2.1 x.2.2.2.1 x.2.2.2.2.1 x.2.2.2.2.2⟩ :=
  soundF_of Cf32_frames_page_lay_ok Try.func32 (by kernel_rfl) (by kernel_rfl) Ef32_frames_page_lay
noncomputable def Cf36_frames_Stack_activate : Ctx := mkC Try.prog tys zeros eqs [(31, ⟨.ptr, .ptr, fun x => f31_frames_Stack_free x⟩), (32, ⟨(.pair .ptr (.pair (.int .i64) (.pair .sl (.pair .sl (.pair (.int .i64) .ptr))))), .ptr, fun x => f32_frames_page_lay x.1 x.2.1 x.2.2.1 x.2.2.2.1 x.2.2.2.2.1 x.2.2.2.2.2⟩), (33, ⟨(.pair .ptr .ptr), (.tup .unit), fun x => f33_frames_Stack_use x.1 x.2⟩), (71, ⟨(.pair .ptr (.int .i64)), (.tup .unit), fun x => f71_frames_page_divorce x.1 x.2⟩)] []
/-- (*palaverframes.Stack).activate -/
noncomputable def f36_frames_Stack_activate (x0 : Option Addr) (x1 : Option Addr) : M Unit :=
  bnd (drf x0) fun (p1 : Addr) =>
  bnd (wrs (Addr.add p1 3) 0 [.pointer none]) fun _ =>
  bnd (drf x0) fun (p2 : Addr) =>
  bnd (wrs (Addr.add p2 4) 0 [.pointer none]) fun _ =>
  bnd (
  cnd (Option.isNone x1) (
  ret ()) (
  bnd (drf x1) fun (p4 : Addr) =>
  bnd (ld .ptr (Addr.add p4 2)) fun (v5 : Option Addr) =>
  bnd (
  cnd (!(Option.isNone v5)) (
  bnd (
  bnd (ordM 36 8 (regionIn 8 Try.f36)) fun (o8 : List Nat) =>
  bnd (drf x1) fun (p9 : Addr) =>
  bnd (ld .ptr (Addr.add p9 2)) fun (v10 : Option Addr) =>
  bnd (drf x1) fun (p11 : Addr) =>
  bnd (ld (.int .i64) (Addr.add p11 3)) fun (v12 : Int) =>
  bnd (f71_frames_page_divorce v10 (IntKind.wrap .i64 (v12 + (1 : Int)))) fun (r13 : Unit) =>
  bnd (
  bnd (chk (.int .i64) (Addr.add p11 3) v12) fun _ =>
  ret ()) fun _ =>
  ret ()) fun (s7 : Unit) =>
  bnd (drf x1) fun (p14 : Addr) =>
  bnd (ld .ptr (Addr.add p14 2)) fun (v15 : Option Addr) =>
  bnd (f33_frames_Stack_use x0 v15) fun (r16 : Unit) =>
  ret ()) (
  bnd (f31_frames_Stack_free x0) fun (r17 : Option Addr) =>
  bnd (drf x1) fun (p18 : Addr) =>
  bnd (ld .ptr (Addr.add p18 8)) fun (v19 : Option Addr) =>
  bnd (drf r17) fun (p20 : Addr) =>
  bnd (wrs (Addr.add p20 2) 0 [.pointer v19]) fun _ =>
  bnd (
  bnd (ordM 36 3 (regionIn 3 Try.f36)) fun (o22 : List Nat) =>
  bnd (drf x1) fun (p23 : Addr) =>
  bnd (ld (.int .i64) (Addr.add p23 4)) fun (v24 : Int) =>
  bnd (drf x1) fun (p25 : Addr) =>
  bnd (ld .sl (Addr.add p25 5)) fun (v26 : Sl) =>
  bnd (drf x1) fun (p27 : Addr) =>
  bnd (ld .sl (Addr.add p27 6)) fun (v28 : Sl) =>
  bnd (drf x1) fun (p29 : Addr) =>
  bnd (ld (.int .i64) (Addr.add p29 7)) fun (v30 : Int) =>
  bnd (f32_frames_page_lay r17 v24 v26 v28 v30 x1) fun (r31 : Option Addr) =>
  bnd (ret ()) fun _ =>
  ret ()) fun (s21 : Unit) =>
  bnd (drf x1) fun (p32 : Addr) =>
  bnd (wrs (Addr.add p32 2) 0 [.pointer r17]) fun _ =>
  bnd (drf x1) fun (p33 : Addr) =>
  bnd (wrs (Addr.add p33 3) 0 [.int .i64 (0 : Int)]) fun _ =>
  bnd (f33_frames_Stack_use x0 r17) fun (r34 : Unit) =>
  ret ())) fun (s6 : Unit) =>
  ret ())) fun (s3 : Unit) =>
  ret ()
noncomputable def Af36_frames_Stack_activate : Ann := (.two .nil (.one (.two .nil (.join [] [4, 11, 12, 13, 14, 15, 16, 17, 18, 19, 20, 21, 22, 23, 24, 25, 26, 27, 28, 29, 30, 31, 32, 33, 34, 35, 36, 37, 38, 39, 40, 41, 42, 43, 44, 45, 46, 47, 48, 52, 53, 54, 55, 56, 57, 58, 59, 60, 61, 62, 63, 64, 65, 66, 67, 68, 69, 70, 71, 72, 73] false (.two .nil (.two .nil (.join [] [4, 11, 12, 13, 14, 15, 16, 17, 18, 19, 20, 21, 22, 23, 24, 25, 26, 27, 28, 29, 30, 31, 32, 33, 34, 35, 36, 37, 38, 39, 40, 41, 42, 43, 44, 45, 46, 47, 48, 58, 59, 60, 61, 62, 63, 64, 65, 66, 67, 68, 69, 70, 71, 72, 73] false (.two (.two (.join [] [58, 59, 60, 61, 62, 63, 64, 65, 66, 67] false (.ord 36 [(0, 1022), (1, 1020), (2, 1017), (4, 1011), (0, 1007), (16, 975), (32, 927), (64, 831), (128, 639), (264, 247)] (.o 0 (.o 1 (.o 2 (.o 3 (.o 4 (.o 5 (.o 6 (.o 7 (.o 8 (.o 9 .done)))))))))))) .nil) (.two .nil (.two .nil (.two (.join [] [20, 21, 22, 23, 24, 25, 26, 27, 28, 29, 30, 31, 32, 33, 34, 35, 36, 37, 38] false (.ord 36 [(0, 524286), (0, 524285), (2, 524281), (4, 524275), (8, 524263), (0, 524255), (32, 524191), (64, 524095), (128, 523903), (0, 523775), (512, 522751), (1024, 521215), (2048, 518143), (0, 516095), (8192, 499711), (16384, 475135), (32768, 425983), (0, 393215), (200977, 61166)] (.o 0 (.o 1 (.o 2 (.o 3 (.o 4 (.o 5 (.o 6 (.o 7 (.o 8 (.o 9 (.o 10 (.o 11 (.o 12 (.o 13 (.o 14 (.o 15 (.o 16 (.o 17 (.o 18 .done))))))))))))))))))))) (.two .nil .nil))))))))))))
theorem Cf36_frames_Stack_activate_ok : Cf36_frames_Stack_activate.Ok := mkC_ok mixed tysOk zerosOk eqsOk ⟨Sf31_frames_Stack_free, Sf32_frames_page_lay, Sf33_frames_Stack_use, Sf71_frames_page_divorce, trivial⟩ trivial
theorem Ef36_frames_Stack_activate (x : (Option Addr × Option Addr)) : evF Cf36_frames_Stack_activate Try.f36 74 (.pair .ptr .ptr) (.tup .unit) Af36_frames_Stack_activate x = f36_frames_Stack_activate x.1 x.2 := by kernel_rfl
theorem Sf36_frames_Stack_activate : SoundF Try.prog 36 ⟨(.pair .ptr .ptr), (.tup .unit), fun x => f36_frames_Stack_activate x.1 x.2⟩ :=
  soundF_of Cf36_frames_Stack_activate_ok Try.func36 (by kernel_rfl) (by kernel_rfl) Ef36_frames_Stack_activate
noncomputable def Cf28_frames_Stack_active : Ctx := mkC Try.prog tys zeros eqs [(36, ⟨(.pair .ptr .ptr), (.tup .unit), fun x => f36_frames_Stack_activate x.1 x.2⟩), (66, ⟨.ptr, .ptr, fun x => f66_frames_page_last x⟩)] []
/-- (*palaverframes.Stack).active -/
noncomputable def f28_frames_Stack_active (x0 : Option Addr) : M (Option Addr × Option Addr) :=
  bnd (drf x0) fun (p1 : Addr) =>
  bnd (ld .ptr (Addr.add p1 4)) fun (v2 : Option Addr) =>
  bnd (
  cnd (!(Option.isNone v2)) (
  bnd (drf x0) fun (p4 : Addr) =>
  bnd (ld .ptr (Addr.add p4 4)) fun (v5 : Option Addr) =>
  bnd (f36_frames_Stack_activate x0 v5) fun (r6 : Unit) =>
  ret ()) (
  ret ())) fun (s3 : Unit) =>
  bnd (drf x0) fun (p7 : Addr) =>
  bnd (ld .ptr (Addr.add p7 3)) fun (v8 : Option Addr) =>
  cnd (Option.isNone v8) (
  ret (none, none)) (
  bnd (
  bnd (ordM 28 5 (regionIn 5 Try.f28)) fun (o10 : List Nat) =>
  bnd (drf x0) fun (p11 : Addr) =>
  bnd (ld .ptr (Addr.add p11 3)) fun (v12 : Option Addr) =>
  bnd (drf x0) fun (p13 : Addr) =>
  bnd (ld .ptr (Addr.add p13 3)) fun (v14 : Option Addr) =>
  bnd (f66_frames_page_last v14) fun (r15 : Option Addr) =>
  bnd (
  bnd (chk .ptr (Addr.add p11 3) v12) fun _ =>
  ret ()) fun _ =>
  ret (v12, r15)) fun (s9 : (Option Addr × Option Addr)) =>
  ret (s9.1, s9.2))
noncomputable def Af28_frames_Stack_active : Ann := (.two .nil (.two (.two .nil (.join [] [9, 10, 11, 12, 13, 14] false (.two .nil .nil))) (.two (.two .nil (.two (.two .nil .nil) .nil)) (.two (.join [(2, .ptr), (3, .ptr)] [20, 21, 22, 23, 24, 25, 26, 27, 28] false (.ord 28 [(0, 2046), (1, 2044), (2, 2041), (4, 2035), (0, 2031), (16, 1999), (32, 1951), (64, 1855), (128, 1663), (271, 1527), (1023, 767)] (.o 0 (.o 1 (.o 2 (.o 3 (.o 4 (.o 5 (.o 6 (.o 7 (.o 8 (.o 9 (.o 10 .done))))))))))))) .nil))))
theorem Cf28_frames_Stack_active_ok : Cf28_frames_Stack_active.Ok := mkC_ok mixed tysOk zerosOk eqsOk ⟨Sf36_frames_Stack_activate, Sf66_frames_page_last, trivial⟩ trivial
theorem Ef28_frames_Stack_active (x : Option Addr) : evF Cf28_frames_Stack_active Try.f28 29 .ptr (.tup (.pair .ptr .ptr)) Af28_frames_Stack_active x = f28_frames_Stack_active x := by kernel_rfl
theorem Sf28_frames_Stack_active : SoundF Try.prog 28 ⟨.ptr, (.tup (.pair .ptr .ptr)), fun x => f28_frames_Stack_active x⟩ :=
  soundF_of Cf28_frames_Stack_active_ok Try.func28 (by kernel_rfl) (by kernel_rfl) Ef28_frames_Stack_active
noncomputable def Cf8_frames_Stack_Call : Ctx := mkC Try.prog tys zeros eqs [(28, ⟨.ptr, (.tup (.pair .ptr .ptr)), fun x => f28_frames_Stack_active x⟩), (29, ⟨.ptr, (.int .i64), fun x => f29_frames_page_top x⟩), (30, ⟨(.pair .ptr (.int .i64)), .ptr, fun x => f30_frames_page_marry x.1 x.2⟩), (31, ⟨.ptr, .ptr, fun x => f31_frames_Stack_free x⟩), (32, ⟨(.pair .ptr (.pair (.int .i64) (.pair .sl (.pair .sl (.pair (.int .i64) .ptr))))), .ptr, fun x => f32_frames_page_lay x.1 x.2.1 x.2.2.1 x.2.2.2.1 x.2.2.2.2.1 x.2.2.2.2.2⟩), (33, ⟨(.pair .ptr .ptr), (.tup .unit), fun x => f33_frames_Stack_use x.1 x.2⟩)] []
/-- (*palaverframes.Stack).Call -/
noncomputable def f8_frames_Stack_Call (x0 : Option Addr) (x1 : Int) (x2 : Sl) (x3 : Int) : M Int :=
  bnd (
  cnd (decide (x3 < (0 : Int))) (
  ret true) (
  bnd (drf x0) fun (p1 : Addr) =>
  bnd (ld (.int .i64) (Addr.add p1 1)) fun (v2 : Int) =>
  ret (decide (x3 > v2)))) fun (b3 : Bool) =>
  bnd (
  cnd b3 (
  ret true) (
  bnd (drf x0) fun (p4 : Addr) =>
  bnd (ld (.int .i64) (Addr.add p4 1)) fun (v5 : Int) =>
  ret (decide ((IntKind.wrap .i64 ((IntKind.wrap .i64 ((x2.len : Int) + x3)) + (4 : Int))) > v5)))) fun (b6 : Bool) =>
  cnd b6 (
  ret (237 : Int)) (
  bnd drawM fun _ =>
  bnd (drf x0) fun (p7 : Addr) =>
  bnd (ld (.int .i64) (Addr.add p7 6)) fun (v8 : Int) =>
  bnd (drf x0) fun (p9 : Addr) =>
  bnd (ld (.int .i64) (Addr.add p9 2)) fun (v10 : Int) =>
  cnd (decide (v8 ≥ v10)) (
  ret (236 : Int)) (
  bnd (drf x0) fun (p11 : Addr) =>
  bnd (ld (.int .i64) (Addr.add p11 6)) fun (v12 : Int) =>
  bnd (drf x0) fun (p13 : Addr) =>
  bnd (wrs (Addr.add p13 6) 0 [.int .i64 (IntKind.wrap .i64 (v12 + (1 : Int)))]) fun _ =>
  bnd (f28_frames_Stack_active x0) fun (r14 : (Option Addr × Option Addr)) =>
  bnd (
  bnd (ordM 8 7 (regionIn 7 Try.f8)) fun (o16 : List Nat) =>
  cnd (Option.isNone r14.2) (
  bnd (ret ()) fun _ =>
  ret true) (
  bnd (drf x0) fun (p17 : Addr) =>
  bnd (ld (.int .i64) (Addr.add p17 1)) fun (v18 : Int) =>
  bnd (f29_frames_page_top r14.1) fun (r19 : Int) =>
  bnd (
  bnd (chk (.int .i64) (Addr.add p17 1) v18) fun _ =>
  ret ()) fun _ =>
  ret (decide ((IntKind.wrap .i64 ((IntKind.wrap .i64 ((IntKind.wrap .i64 (r19 + (4 : Int))) + (x2.len : Int))) + x3)) > v18)))) fun (s15 : Bool) =>
  bnd (
  cnd s15 (
  bnd (
  cnd (!(Option.isNone r14.2)) (
  bnd (drf r14.1) fun (p22 : Addr) =>
  bnd (ld .sl (Addr.add p22 1)) fun (v23 : Sl) =>
  bnd (f30_frames_page_marry r14.1 (IntKind.wrap .i64 ((v23.len : Int) - (1 : Int)))) fun (r24 : Option Addr) =>
  ret r24) (
  ret none)) fun (s21 : Option Addr) =>
  bnd (f31_frames_Stack_free x0) fun (r25 : Option Addr) =>
  bnd (drf r25) fun (p26 : Addr) =>
  bnd (wrs (Addr.add p26 2) 0 [.pointer s21]) fun _ =>
  ret r25) (
  ret r14.1)) fun (s20 : Option Addr) =>
  bnd (f32_frames_page_lay s20 x1 x2 (Sl.mk none 0 0) x3 none) fun (r27 : Option Addr) =>
  bnd (f33_frames_Stack_use x0 s20) fun (r28 : Unit) =>
  ret (0 : Int)))
noncomputable def Af8_frames_Stack_Call : Ann := (.two .nil (.two (.one (.two .nil (.two (.two .nil .nil) (.two .nil (.two (.two .nil .nil) .nil))))) (.two .nil (.two .nil (.two (.two (.join [(73, .bool)] [57, 58, 59, 60, 61, 62, 63, 64, 65, 66, 67, 68, 69, 70, 71, 72] false (.ord 8 [(0, 131070), (1, 131068), (2, 131065), (4, 131059), (12, 131043), (20, 131019), (4, 131003), (68, 130875), (164, 130651), (4, 130555), (772, 129275), (4, 129019), (2052, 124923), (4100, 118779), (8196, 106491), (17412, 80891), (32772, 32763)] (.o 0 (.o 1 (.o 2 (.s 59 (.o 3 (.o 6 (.o 7 (.o 9 (.o 11 (.o 12 (.o 13 (.o 14 (.o 4 (.o 5 (.o 8 (.o 10 (.o 15 (.o 16 .done)))))))))))))) (.o 3 (.o 6 (.o 7 (.o 9 (.o 11 (.o 12 (.o 13 (.o 14 (.o 4 (.o 5 (.o 8 (.o 10 (.o 15 (.o 16 .done)))))))))))))))))))) (.join [(9, .ptr)] [11, 74, 75, 76, 77, 78, 79, 80, 81, 82, 83, 84, 85, 86, 87, 88, 89] false (.two (.two .nil (.two (.two .nil (.join [(11, .ptr)] [76, 77, 78, 79, 80, 81, 82, 83] false (.two .nil .nil))) (.two .nil .nil))) .nil))) (.two .nil (.two .nil (.two .nil .nil))))))))
theorem Cf8_frames_Stack_Call_ok : Cf8_frames_Stack_Call.Ok := mkC_ok mixed tysOk zerosOk eqsOk ⟨Sf28_frames_Stack_active, Sf29_frames_page_top, Sf30_frames_page_marry, Sf31_frames_Stack_free, Sf32_frames_page_lay, Sf33_frames_Stack_use, trivial⟩ trivial
theorem Ef8_frames_Stack_Call (x : (Option Addr × (Int × (Sl × Int)))) : evF Cf8_frames_Stack_Call Try.f8 98 (.pair .ptr (.pair (.int .i64) (.pair .sl (.int .i64)))) (.int .i64) Af8_frames_Stack_Call x = f8_frames_Stack_Call x.1 x.2.1 x.2.2.1 x.2.2.2 := by kernel_rfl
theorem Sf8_frames_Stack_Call : SoundF Try.prog 8 ⟨(.pair .ptr (.pair (.int .i64) (.pair .sl (.int .i64)))), (.int .i64), fun x => f8_frames_Stack_Call x.1 x.2.1 x.2.2.1 x.2.2.2⟩ :=
  soundF_of Cf8_frames_Stack_Call_ok Try.func8 (by kernel_rfl) (by kernel_rfl) Ef8_frames_Stack_Call
noncomputable def Cf9_frames_Stack_Push : Ctx := mkC Try.prog tys zeros eqs [(28, ⟨.ptr, (.tup (.pair .ptr .ptr)), fun x => f28_frames_Stack_active x⟩), (34, ⟨(.pair .ptr .ptr), .sl, fun x => f34_frames_page_stack x.1 x.2⟩)] []
/-- (*palaverframes.Stack).Push -/
noncomputable def f9_frames_Stack_Push (x0 : Option Addr) (x1 : Int) : M Int :=
  bnd (f28_frames_Stack_active x0) fun (r1 : (Option Addr × Option Addr)) =>
  cnd (Option.isNone r1.2) (
  ret (231 : Int)) (
  bnd drawM fun _ =>
  bnd (drf r1.2) fun (p2 : Addr) =>
  bnd (ld (.int .i64) (Addr.add p2 3)) fun (v3 : Int) =>
  bnd (drf r1.2) fun (p4 : Addr) =>
  bnd (ld (.int .i64) (Addr.add p4 4)) fun (v5 : Int) =>
  cnd (decide (v3 ≥ v5)) (
  ret (236 : Int)) (
  bnd (drf r1.2) fun (p6 : Addr) =>
  bnd (ld (.int .i64) (Addr.add p6 3)) fun (v7 : Int) =>
  bnd (drf r1.2) fun (p8 : Addr) =>
  bnd (wrs (Addr.add p8 3) 0 [.int .i64 (IntKind.wrap .i64 (v7 + (1 : Int)))]) fun _ =>
  bnd (
  bnd (ordM 9 7 (regionIn 7 Try.f9)) fun (o10 : List Nat) =>
  bnd (drf r1.2) fun (p11 : Addr) =>
  bnd (ld (.int .i64) (Addr.add p11 3)) fun (v12 : Int) =>
  bnd (f34_frames_page_stack r1.1 r1.2) fun (r13 : Sl) =>
  bnd (
  bnd (chk (.int .i64) (Addr.add p11 3) v12) fun _ =>
  ret ()) fun _ =>
  bnd (ix 1 r13 (IntKind.wrap .i64 (v12 - (1 : Int)))) fun (p14 : Addr) =>
  bnd (wrs p14 0 [.int .i64 x1]) fun _ =>
  bnd (ret ()) fun _ =>
  ret ()) fun (s9 : Unit) =>
  ret (0 : Int)))
noncomputable def Af9_frames_Stack_Push : Ann := (.two .nil (.two .nil (.two (.one (.two .nil (.two (.two .nil .nil) (.two .nil (.two (.two .nil .nil) .nil))))) (.two .nil (.two (.join [] [32, 33, 34, 35, 36, 37, 38, 39, 40, 41] false (.ord 9 [(0, 2046), (0, 2045), (3, 2040), (0, 2039), (8, 2023), (16, 1999), (32, 1951), (64, 1855), (0, 1791), (511, 1403), (1023, 255)] (.o 0 (.o 1 (.o 3 (.o 4 (.o 5 (.o 6 (.o 7 (.o 8 (.o 2 (.o 9 (.o 10 .done))))))))))))) (.two .nil .nil))))))
theorem Cf9_frames_Stack_Push_ok : Cf9_frames_Stack_Push.Ok := mkC_ok mixed tysOk zerosOk eqsOk ⟨Sf28_frames_Stack_active, Sf34_frames_page_stack, trivial⟩ trivial
theorem Ef9_frames_Stack_Push (x : (Option Addr × Int)) : evF Cf9_frames_Stack_Push Try.f9 42 (.pair .ptr (.int .i64)) (.int .i64) Af9_frames_Stack_Push x = f9_frames_Stack_Push x.1 x.2 := by kernel_rfl
theorem Sf9_frames_Stack_Push : SoundF Try.prog 9 ⟨(.pair .ptr (.int .i64)), (.int .i64), fun x => f9_frames_Stack_Push x.1 x.2⟩ :=
  soundF_of Cf9_frames_Stack_Push_ok Try.func9 (by kernel_rfl) (by kernel_rfl) Ef9_frames_Stack_Push
noncomputable def Cf60_frames_Stack_this : Ctx := mkC Try.prog tys zeros eqs [(30, ⟨(.pair .ptr (.int .i64)), .ptr, fun x => f30_frames_page_marry x.1 x.2⟩)] []
/-- (*palaverframes.Stack).this -/
noncomputable def f60_frames_Stack_this (x0 : Option Addr) : M (Option Addr) :=
  bnd (drf x0) fun (p1 : Addr) =>
  bnd (ld .ptr (Addr.add p1 3)) fun (v2 : Option Addr) =>
  cnd (!(Option.isNone v2)) (
  bnd (
  bnd (ordM 60 2 (regionIn 2 Try.f60)) fun (o4 : List Nat) =>
  bnd (drf x0) fun (p5 : Addr) =>
  bnd (ld .ptr (Addr.add p5 3)) fun (v6 : Option Addr) =>
  bnd (drf x0) fun (p7 : Addr) =>
  bnd (ld .ptr (Addr.add p7 3)) fun (v8 : Option Addr) =>
  bnd (drf v8) fun (p9 : Addr) =>
  bnd (ld .sl (Addr.add p9 1)) fun (v10 : Sl) =>
  bnd (f30_frames_page_marry v6 (IntKind.wrap .i64 ((v10.len : Int) - (1 : Int)))) fun (r11 : Option Addr) =>
  bnd (
  bnd (chk .sl (Addr.add p9 1) v10) fun _ =>
  bnd (chk .ptr (Addr.add p7 3) v8) fun _ =>
  ret ()) fun _ =>
  ret r11) fun (s3 : Option Addr) =>
  ret s3) (
  bnd (drf x0) fun (p12 : Addr) =>
  bnd (ld .ptr (Addr.add p12 4)) fun (v13 : Option Addr) =>
  ret v13)
noncomputable def Af60_frames_Stack_this : Ann := (.two .nil (.two (.two .nil (.two (.two (.join [(2, .ptr)] [8, 9, 10, 11, 12, 13, 14, 15, 16, 17, 18, 19, 20, 21] false (.ord 60 [(0, 32766), (1, 32764), (2, 32761), (4, 32755), (0, 32751), (16, 32719), (32, 32671), (64, 32575), (128, 32383), (256, 31999), (512, 31231), (1024, 29695), (2048, 26623), (4104, 20471), (16383, 8191)] (.o 0 (.o 1 (.o 2 (.o 3 (.o 4 (.o 5 (.o 6 (.o 7 (.o 8 (.o 9 (.o 10 (.o 11 (.o 12 (.o 13 (.o 14 .done))))))))))))))))) .nil) .nil)) (.two .nil .nil)))
theorem Cf60_frames_Stack_this_ok : Cf60_frames_Stack_this.Ok := mkC_ok mixed tysOk zerosOk eqsOk ⟨Sf30_frames_page_marry, trivial⟩ trivial
theorem Ef60_frames_Stack_this (x : Option Addr) : evF Cf60_frames_Stack_this Try.f60 26 .ptr .ptr Af60_frames_Stack_this x = f60_frames_Stack_this x := by kernel_rfl
theorem Sf60_frames_Stack_this : SoundF Try.prog 60 ⟨.ptr, .ptr, fun x => f60_frames_Stack_this x⟩ :=
  soundF_of Cf60_frames_Stack_this_ok Try.func60 (by kernel_rfl) (by kernel_rfl) Ef60_frames_Stack_this
noncomputable def Cf59_frames_Stack_name : Ctx := mkC Try.prog tys zeros eqs [] []
/-- (*palaverframes.Stack).name -/
noncomputable def f59_frames_Stack_name (x0 : Option Addr) (x1 : Option Addr) : M Int :=
  cnd (Option.isNone x1) (
  ret (0 : Int)) (
  bnd (drf x1) fun (p1 : Addr) =>
  bnd (ld (.int .i64) (Addr.add p1 0)) fun (v2 : Int) =>
  bnd (
  cnd (v2 == (0 : Int)) (
  bnd (drf x0) fun (p4 : Addr) =>
  bnd (ld .sl (Addr.add p4 5)) fun (v5 : Sl) =>
  bnd (runV Try.prog .sl (Instr.buildSlice 61 1 #[(0, .pointer x1)])) fun (v6 : Sl) =>
  bnd (runV Try.prog .sl (Builtin.append_ #[61, 61] 61 #[.slice v5.a v5.len v5.cap, .slice v6.a v6.len v6.cap])) fun (v7 : Sl) =>
  bnd (drf x0) fun (p8 : Addr) =>
  bnd (wrs (Addr.add p8 5) 0 [.slice v7.a v7.len v7.cap]) fun _ =>
  bnd (drf x0) fun (p9 : Addr) =>
  bnd (ld .sl (Addr.add p9 5)) fun (v10 : Sl) =>
  bnd (drf x1) fun (p11 : Addr) =>
  bnd (wrs (Addr.add p11 0) 0 [.int .i64 (v10.len : Int)]) fun _ =>
  ret ()) (
  ret ())) fun (s3 : Unit) =>
  bnd (drf x1) fun (p12 : Addr) =>
  bnd (ld (.int .i64) (Addr.add p12 0)) fun (v13 : Int) =>
  ret v13)
noncomputable def Af59_frames_Stack_name : Ann := (.two .nil (.two (.two .nil (.two (.two .nil .nil) .nil)) (.two (.two .nil (.join [] [12, 13, 14, 15, 16, 17, 18, 19, 20, 21, 22, 23, 24, 25, 26, 27, 28, 29] false (.two (.two .nil .nil) .nil))) (.two .nil .nil))))
theorem Cf59_frames_Stack_name_ok : Cf59_frames_Stack_name.Ok := mkC_ok mixed tysOk zerosOk eqsOk trivial trivial
theorem Ef59_frames_Stack_name (x : (Option Addr × Option Addr)) : evF Cf59_frames_Stack_name Try.f59 34 (.pair .ptr .ptr) (.int .i64) Af59_frames_Stack_name x = f59_frames_Stack_name x.1 x.2 := by kernel_rfl
theorem Sf59_frames_Stack_name : SoundF Try.prog 59 ⟨(.pair .ptr .ptr), (.int .i64), fun x => f59_frames_Stack_name x.1 x.2⟩ :=
  soundF_of Cf59_frames_Stack_name_ok Try.func59 (by kernel_rfl) (by kernel_rfl) Ef59_frames_Stack_name
noncomputable def Cf18_frames_Stack_This : Ctx := mkC Try.prog tys zeros eqs [(59, ⟨(.pair .ptr .ptr), (.int .i64), fun x => f59_frames_Stack_name x.1 x.2⟩), (60, ⟨.ptr, .ptr, fun x => f60_frames_Stack_this x⟩)] []
/-- (*palaverframes.Stack).This -/
noncomputable def f18_frames_Stack_This (x0 : Option Addr) : M Int :=
  bnd (f60_frames_Stack_this x0) fun (r1 : Option Addr) =>
  bnd (f59_frames_Stack_name x0 r1) fun (r2 : Int) =>
  ret r2
noncomputable def Af18_frames_Stack_This : Ann := (.two .nil (.two .nil .nil))
theorem Cf18_frames_Stack_This_ok : Cf18_frames_Stack_This.Ok := mkC_ok mixed tysOk zerosOk eqsOk ⟨Sf59_frames_Stack_name, Sf60_frames_Stack_this, trivial⟩ trivial
theorem Ef18_frames_Stack_This (x : Option Addr) : evF Cf18_frames_Stack_This Try.f18 7 .ptr (.int .i64) Af18_frames_Stack_This x = f18_frames_Stack_This x := by kernel_rfl
theorem Sf18_frames_Stack_This : SoundF Try.prog 18 ⟨.ptr, (.int .i64), fun x => f18_frames_Stack_This x⟩ :=
  soundF_of Cf18_frames_Stack_This_ok Try.func18 (by kernel_rfl) (by kernel_rfl) Ef18_frames_Stack_This
noncomputable def Cf62_frames_Stack_of : Ctx := mkC Try.prog tys zeros eqs [] []
/-- (*palaverframes.Stack).of -/
noncomputable def f62_frames_Stack_of (x0 : Option Addr) (x1 : Int) : M (Option Addr × Int) :=
  bnd (
  cnd (decide (x1 < (1 : Int))) (
  ret true) (
  bnd (drf x0) fun (p1 : Addr) =>
  bnd (ld .sl (Addr.add p1 5)) fun (v2 : Sl) =>
  ret (decide (x1 > (v2.len : Int))))) fun (b3 : Bool) =>
  cnd b3 (
  ret (none, (234 : Int))) (
  bnd (drf x0) fun (p4 : Addr) =>
  bnd (ld .sl (Addr.add p4 5)) fun (v5 : Sl) =>
  bnd (ix 1 v5 (IntKind.wrap .i64 (x1 - (1 : Int)))) fun (p6 : Addr) =>
  bnd (ld .ptr p6) fun (v7 : Option Addr) =>
  bnd (drf v7) fun (p8 : Addr) =>
  bnd (ld .bool (Addr.add p8 1)) fun (v9 : Bool) =>
  cnd v9 (
  ret (none, (235 : Int))) (
  bnd (drf x0) fun (p10 : Addr) =>
  bnd (ld .sl (Addr.add p10 5)) fun (v11 : Sl) =>
  bnd (ix 1 v11 (IntKind.wrap .i64 (x1 - (1 : Int)))) fun (p12 : Addr) =>
  bnd (ld .ptr p12) fun (v13 : Option Addr) =>
  ret (v13, (0 : Int))))
noncomputable def Af62_frames_Stack_of : Ann := (.two .nil (.two (.one (.two .nil (.two (.two .nil .nil) (.two .nil (.two (.two .nil .nil) .nil))))) (.two .nil .nil)))
theorem Cf62_frames_Stack_of_ok : Cf62_frames_Stack_of.Ok := mkC_ok mixed tysOk zerosOk eqsOk trivial trivial
theorem Ef62_frames_Stack_of (x : (Option Addr × Int)) : evF Cf62_frames_Stack_of Try.f62 38 (.pair .ptr (.int .i64)) (.tup (.pair .ptr (.int .i64))) Af62_frames_Stack_of x = f62_frames_Stack_of x.1 x.2 := by kernel_rfl
theorem Sf62_frames_Stack_of : SoundF Try.prog 62 ⟨(.pair .ptr (.int .i64)), (.tup (.pair .ptr (.int .i64))), fun x => f62_frames_Stack_of x.1 x.2⟩ :=
  soundF_of Cf62_frames_Stack_of_ok Try.func62 (by kernel_rfl) (by kernel_rfl) Ef62_frames_Stack_of
noncomputable def Cf37_frames_context_from : Ctx := mkC Try.prog tys zeros eqs [(72, ⟨(.pair .ptr (.int .i64)), .ptr, fun x => f72_frames_page_sender x.1 x.2⟩)] []
/-- (*palaverframes.context).from -/
noncomputable def f37_frames_context_from (x0 : Option Addr) : M (Option Addr) :=
  bnd (drf x0) fun (p1 : Addr) =>
  bnd (ld .ptr (Addr.add p1 8)) fun (v2 : Option Addr) =>
  bnd (drf x0) fun (p3 : Addr) =>
  bnd (ld .ptr (Addr.add p3 2)) fun (v4 : Option Addr) =>
  bnd (
  cnd (!(Option.isNone v4)) (
  bnd (
  bnd (ordM 37 3 (regionIn 3 Try.f37)) fun (o7 : List Nat) =>
  bnd (drf x0) fun (p8 : Addr) =>
  bnd (ld .ptr (Addr.add p8 2)) fun (v9 : Option Addr) =>
  bnd (drf x0) fun (p10 : Addr) =>
  bnd (ld (.int .i64) (Addr.add p10 3)) fun (v11 : Int) =>
  bnd (f72_frames_page_sender v9 v11) fun (r12 : Option Addr) =>
  bnd (ret ()) fun _ =>
  ret r12) fun (s6 : Option Addr) =>
  ret s6) (
  ret v2)) fun (s5 : Option Addr) =>
  bnd (
  cnd (Option.isNone s5) (
  ret true) (
  bnd (drf s5) fun (p13 : Addr) =>
  bnd (ld .bool (Addr.add p13 1)) fun (v14 : Bool) =>
  ret v14)) fun (b15 : Bool) =>
  cnd b15 (
  ret none) (
  ret s5)
noncomputable def Af37_frames_context_from : Ann := (.two .nil (.two .nil (.two (.two .nil (.join [(3, .ptr)] [13, 14, 15, 16, 17, 18, 19, 20, 21] false (.two (.join [(3, .ptr)] [13, 14, 15, 16, 17, 18, 19, 20, 21] false (.ord 37 [(0, 1022), (1, 1020), (2, 1017), (4, 1011), (0, 1007), (16, 975), (32, 927), (64, 831), (136, 631), (511, 255)] (.o 0 (.o 1 (.o 2 (.o 3 (.o 4 (.o 5 (.o 6 (.o 7 (.o 8 (.o 9 .done)))))))))))) .nil))) (.two (.two .nil (.two (.two .nil .nil) .nil)) (.two .nil .nil)))))
theorem Cf37_frames_context_from_ok : Cf37_frames_context_from.Ok := mkC_ok mixed tysOk zerosOk eqsOk ⟨Sf72_frames_page_sender, trivial⟩ trivial
theorem Ef37_frames_context_from (x : Option Addr) : evF Cf37_frames_context_from Try.f37 31 .ptr .ptr Af37_frames_context_from x = f37_frames_context_from x := by kernel_rfl
theorem Sf37_frames_context_from : SoundF Try.prog 37 ⟨.ptr, .ptr, fun x => f37_frames_context_from x⟩ :=
  soundF_of Cf37_frames_context_from_ok Try.func37 (by kernel_rfl) (by kernel_rfl) Ef37_frames_context_from
noncomputable def Cf24_frames_Stack_Sender : Ctx := mkC Try.prog tys zeros eqs [(37, ⟨.ptr, .ptr, fun x => f37_frames_context_from x⟩), (59, ⟨(.pair .ptr .ptr), (.int .i64), fun x => f59_frames_Stack_name x.1 x.2⟩), (62, ⟨(.pair .ptr (.int .i64)), (.tup (.pair .ptr (.int .i64))), fun x => f62_frames_Stack_of x.1 x.2⟩)] []
/-- (*palaverframes.Stack).Sender -/
noncomputable def f24_frames_Stack_Sender (x0 : Option Addr) (x1 : Int) : M (Int × Int) :=
  bnd (f62_frames_Stack_of x0 x1) fun (r1 : (Option Addr × Int)) =>
  cnd (r1.2 != (0 : Int)) (
  ret ((0 : Int), r1.2)) (
  bnd (f37_frames_context_from r1.1) fun (r2 : Option Addr) =>
  bnd (f59_frames_Stack_name x0 r2) fun (r3 : Int) =>
  ret (r3, (0 : Int)))
noncomputable def Af24_frames_Stack_Sender : Ann := (.two .nil (.two .nil (.two (.two .nil (.two (.two .nil .nil) .nil)) (.two .nil .nil))))
theorem Cf24_frames_Stack_Sender_ok : Cf24_frames_Stack_Sender.Ok := mkC_ok mixed tysOk zerosOk eqsOk ⟨Sf37_frames_context_from, Sf59_frames_Stack_name, Sf62_frames_Stack_of, trivial⟩ trivial
theorem Ef24_frames_Stack_Sender (x : (Option Addr × Int)) : evF Cf24_frames_Stack_Sender Try.f24 21 (.pair .ptr (.int .i64)) (.tup (.pair (.int .i64) (.int .i64))) Af24_frames_Stack_Sender x = f24_frames_Stack_Sender x.1 x.2 := by kernel_rfl
theorem Sf24_frames_Stack_Sender : SoundF Try.prog 24 ⟨(.pair .ptr (.int .i64)), (.tup (.pair (.int .i64) (.int .i64))), fun x => f24_frames_Stack_Sender x.1 x.2⟩ :=
  soundF_of Cf24_frames_Stack_Sender_ok Try.func24 (by kernel_rfl) (by kernel_rfl) Ef24_frames_Stack_Sender
noncomputable def Cf38_frames_Stack_end : Ctx := mkC Try.prog tys zeros eqs [(61, ⟨(.pair .ptr (.pair .ptr (.int .i64))), (.tup .unit), fun x => f61_frames_Stack_part x.1 x.2.1 x.2.2⟩)] []
/-- (*palaverframes.Stack).end -/
noncomputable def f38_frames_Stack_end (x0 : Option Addr) (x1 : Option Addr) : M Unit :=
  bnd (drf x1) fun (p1 : Addr) =>
  bnd (ld .ptr (Addr.add p1 2)) fun (v2 : Option Addr) =>
  bnd (
  cnd (!(Option.isNone v2)) (
  bnd (drf x1) fun (p4 : Addr) =>
  bnd (ld (.int .i64) (Addr.add p4 3)) fun (v5 : Int) =>
  bnd (f61_frames_Stack_part x0 v2 (IntKind.wrap .i64 (v5 + (1 : Int)))) fun (r6 : Unit) =>
  bnd (
  bnd (ordM 38 3 (regionIn 3 Try.f38)) fun (o8 : List Nat) =>
  bnd (drf v2) fun (p9 : Addr) =>
  bnd (ld .sl (Addr.add p9 1)) fun (v10 : Sl) =>
  bnd (drf x1) fun (p11 : Addr) =>
  bnd (ld (.int .i64) (Addr.add p11 3)) fun (v12 : Int) =>
  bnd (slc 6 v10 none (some v12) none) fun (v13 : Sl) =>
  bnd (drf v2) fun (p14 : Addr) =>
  bnd (wrs (Addr.add p14 1) 0 [.slice v13.a v13.len v13.cap]) fun _ =>
  bnd (ret ()) fun _ =>
  ret ()) fun (s7 : Unit) =>
  bnd (drf x1) fun (p15 : Addr) =>
  bnd (wrs (Addr.add p15 2) 0 [.pointer none]) fun _ =>
  ret ()) (
  ret ())) fun (s3 : Unit) =>
  bnd (drf x1) fun (p16 : Addr) =>
  bnd (wrs (Addr.add p16 1) 0 [.bool true]) fun _ =>
  bnd (drf x1) fun (p17 : Addr) =>
  bnd (wrs (Addr.add p17 8) 0 [.pointer none]) fun _ =>
  bnd (drf x0) fun (p18 : Addr) =>
  bnd (ld (.int .i64) (Addr.add p18 6)) fun (v19 : Int) =>
  bnd (drf x0) fun (p20 : Addr) =>
  bnd (wrs (Addr.add p20 6) 0 [.int .i64 (IntKind.wrap .i64 (v19 - (1 : Int)))]) fun _ =>
  ret ()
noncomputable def Af38_frames_Stack_end : Ann := (.two (.two .nil (.two .nil (.join [] [11, 12, 13, 14, 15, 16, 17, 18, 19, 20, 21, 22, 23, 24, 25, 26, 27, 28, 29, 30, 31, 32, 33] false (.two (.two .nil (.two (.join [] [19, 20, 21, 22, 23, 24, 25, 26, 27, 28, 29, 30] false (.ord 38 [(0, 8190), (0, 8189), (2, 8185), (4, 8179), (8, 8167), (0, 8159), (32, 8095), (64, 7999), (128, 7807), (272, 7407), (1023, 7166), (2047, 5119), (3071, 1535)] (.o 0 (.o 1 (.o 2 (.o 3 (.o 4 (.o 5 (.o 6 (.o 7 (.o 8 (.o 9 (.o 10 (.o 11 (.o 12 .done))))))))))))))) .nil)) .nil)))) (.two .nil .nil))
theorem Cf38_frames_Stack_end_ok : Cf38_frames_Stack_end.Ok := mkC_ok mixed tysOk zerosOk eqsOk ⟨Sf61_frames_Stack_part, trivial⟩ trivial
theorem Ef38_frames_Stack_end (x : (Option Addr × Option Addr)) : evF Cf38_frames_Stack_end Try.f38 47 (.pair .ptr .ptr) (.tup .unit) Af38_frames_Stack_end x = f38_frames_Stack_end x.1 x.2 := by kernel_rfl
theorem Sf38_frames_Stack_end : SoundF Try.prog 38 ⟨(.pair .ptr .ptr), (.tup .unit), fun x => f38_frames_Stack_end x.1 x.2⟩ :=
  soundF_of Cf38_frames_Stack_end_ok Try.func38 (by kernel_rfl) (by kernel_rfl) Ef38_frames_Stack_end
noncomputable def Cf39_frames_Stack_back : Ctx := mkC Try.prog tys zeros eqs [(9, ⟨(.pair .ptr (.int .i64)), (.int .i64), fun x => f9_frames_Stack_Push x.1 x.2⟩), (36, ⟨(.pair .ptr .ptr), (.tup .unit), fun x => f36_frames_Stack_activate x.1 x.2⟩)] []
/-- (*palaverframes.Stack).back -/
noncomputable def f39_frames_Stack_back (x0 : Option Addr) (x1 : Option Addr) (x2 : Int) : M Int :=
  bnd (f36_frames_Stack_activate x0 x1) fun (r1 : Unit) =>
  bnd (
  cnd (Option.isNone x1) (
  ret true) (
  bnd (f9_frames_Stack_Push x0 x2) fun (r2 : Int) =>
  ret (r2 != (0 : Int)))) fun (b3 : Bool) =>
  cnd b3 (
  bnd (f36_frames_Stack_activate x0 none) fun (r4 : Unit) =>
  ret (235 : Int)) (
  ret (0 : Int))
noncomputable def Af39_frames_Stack_back : Ann := (.two .nil (.two .nil (.two (.two .nil (.two (.two .nil (.two .nil .nil)) .nil)) (.two .nil .nil))))
theorem Cf39_frames_Stack_back_ok : Cf39_frames_Stack_back.Ok := mkC_ok mixed tysOk zerosOk eqsOk ⟨Sf9_frames_Stack_Push, Sf36_frames_Stack_activate, trivial⟩ trivial
theorem Ef39_frames_Stack_back (x : (Option Addr × (Option Addr × Int))) : evF Cf39_frames_Stack_back Try.f39 20 (.pair .ptr (.pair .ptr (.int .i64))) (.int .i64) Af39_frames_Stack_back x = f39_frames_Stack_back x.1 x.2.1 x.2.2 := by kernel_rfl
theorem Sf39_frames_Stack_back : SoundF Try.prog 39 ⟨(.pair .ptr (.pair .ptr (.int .i64))), (.int .i64), fun x => f39_frames_Stack_back x.1 x.2.1 x.2.2⟩ :=
  soundF_of Cf39_frames_Stack_back_ok Try.func39 (by kernel_rfl) (by kernel_rfl) Ef39_frames_Stack_back
noncomputable def Cf11_frames_Stack_Return : Ctx := mkC Try.prog tys zeros eqs [(9, ⟨(.pair .ptr (.int .i64)), (.int .i64), fun x => f9_frames_Stack_Push x.1 x.2⟩), (28, ⟨.ptr, (.tup (.pair .ptr .ptr)), fun x => f28_frames_Stack_active x⟩), (30, ⟨(.pair .ptr (.int .i64)), .ptr, fun x => f30_frames_page_marry x.1 x.2⟩), (36, ⟨(.pair .ptr .ptr), (.tup .unit), fun x => f36_frames_Stack_activate x.1 x.2⟩), (37, ⟨.ptr, .ptr, fun x => f37_frames_context_from x⟩), (38, ⟨(.pair .ptr .ptr), (.tup .unit), fun x => f38_frames_Stack_end x.1 x.2⟩), (39, ⟨(.pair .ptr (.pair .ptr (.int .i64))), (.int .i64), fun x => f39_frames_Stack_back x.1 x.2.1 x.2.2⟩)] []
/-- (*palaverframes.Stack).Return -/
noncomputable def f11_frames_Stack_Return (x0 : Option Addr) (x1 : Int) : M Int :=
  bnd (f28_frames_Stack_active x0) fun (r1 : (Option Addr × Option Addr)) =>
  cnd (Option.isNone r1.2) (
  ret (231 : Int)) (
  bnd (drf r1.1) fun (p2 : Addr) =>
  bnd (ld .sl (Addr.add p2 1)) fun (v3 : Sl) =>
  bnd (
  cnd (decide ((v3.len : Int) > (1 : Int))) (
  bnd (drf r1.2) fun (p4 : Addr) =>
  bnd (ld .ptr (Addr.add p4 5)) fun (v5 : Option Addr) =>
  ret (Option.isNone v5)) (
  ret false)) fun (b6 : Bool) =>
  cnd b6 (
  bnd (drf r1.1) fun (p7 : Addr) =>
  bnd (ld .sl (Addr.add p7 1)) fun (v8 : Sl) =>
  bnd (slc 6 v8 none (some (IntKind.wrap .i64 ((v3.len : Int) - (1 : Int)))) none) fun (v9 : Sl) =>
  bnd (drf r1.1) fun (p10 : Addr) =>
  bnd (wrs (Addr.add p10 1) 0 [.slice v9.a v9.len v9.cap]) fun _ =>
  bnd (drf x0) fun (p11 : Addr) =>
  bnd (ld (.int .i64) (Addr.add p11 6)) fun (v12 : Int) =>
  bnd (drf x0) fun (p13 : Addr) =>
  bnd (wrs (Addr.add p13 6) 0 [.int .i64 (IntKind.wrap .i64 (v12 - (1 : Int)))]) fun _ =>
  bnd (f9_frames_Stack_Push x0 x1) fun (r14 : Int) =>
  cnd (r14 != (0 : Int)) (
  bnd (f36_frames_Stack_activate x0 none) fun (r15 : Unit) =>
  ret (235 : Int)) (
  ret (0 : Int))) (
  bnd (drf r1.1) fun (p16 : Addr) =>
  bnd (ld .sl (Addr.add p16 1)) fun (v17 : Sl) =>
  bnd (f30_frames_page_marry r1.1 (IntKind.wrap .i64 ((v17.len : Int) - (1 : Int)))) fun (r18 : Option Addr) =>
  bnd (f37_frames_context_from r18) fun (r19 : Option Addr) =>
  bnd (f38_frames_Stack_end x0 r18) fun (r20 : Unit) =>
  bnd (f39_frames_Stack_back x0 r19 x1) fun (r21 : Int) =>
  ret r21))
noncomputable def Af11_frames_Stack_Return : Ann := (.two .nil (.two .nil (.two (.two .nil (.two (.two .nil .nil) .nil)) (.two (.two .nil (.two .nil (.two (.two .nil (.two .nil (.two (.two .nil (.two (.two .nil (.two .nil .nil)) .nil)) (.two .nil .nil)))) .nil))) (.two .nil (.two .nil (.two .nil (.two .nil .nil))))))))
theorem Cf11_frames_Stack_Return_ok : Cf11_frames_Stack_Return.Ok := mkC_ok mixed tysOk zerosOk eqsOk ⟨Sf9_frames_Stack_Push, Sf28_frames_Stack_active, Sf30_frames_page_marry, Sf36_frames_Stack_activate, Sf37_frames_context_from, Sf38_frames_Stack_end, Sf39_frames_Stack_back, trivial⟩ trivial
theorem Ef11_frames_Stack_Return (x : (Option Addr × Int)) : evF Cf11_frames_Stack_Return Try.f11 71 (.pair .ptr (.int .i64)) (.int .i64) Af11_frames_Stack_Return x = f11_frames_Stack_Return x.1 x.2 := by kernel_rfl
theorem Sf11_frames_Stack_Return : SoundF Try.prog 11 ⟨(.pair .ptr (.int .i64)), (.int .i64), fun x => f11_frames_Stack_Return x.1 x.2⟩ :=
  soundF_of Cf11_frames_Stack_Return_ok Try.func11 (by kernel_rfl) (by kernel_rfl) Ef11_frames_Stack_Return
noncomputable def Cf63_frames_context_parts : Ctx := mkC Try.prog tys zeros eqs [(34, ⟨(.pair .ptr .ptr), .sl, fun x => f34_frames_page_stack x.1 x.2⟩), (70, ⟨(.pair .ptr .ptr), .sl, fun x => f70_frames_page_slots x.1 x.2⟩)] []
/-- (*palaverframes.context).parts -/
noncomputable def f63_frames_context_parts (x0 : Option Addr) : M (Sl × Sl) :=
  bnd (drf x0) fun (p1 : Addr) =>
  bnd (ld .ptr (Addr.add p1 2)) fun (v2 : Option Addr) =>
  cnd (Option.isNone v2) (
  bnd drawM fun _ =>
  bnd (drf x0) fun (p3 : Addr) =>
  bnd (ld .sl (Addr.add p3 5)) fun (v4 : Sl) =>
  bnd (drf x0) fun (p5 : Addr) =>
  bnd (ld .sl (Addr.add p5 6)) fun (v6 : Sl) =>
  ret (v4, v6)) (
  bnd drawM fun _ =>
  bnd (drf x0) fun (p7 : Addr) =>
  bnd (ld .ptr (Addr.add p7 2)) fun (v8 : Option Addr) =>
  bnd (drf v8) fun (p9 : Addr) =>
  bnd (ld .sl (Addr.add p9 1)) fun (v10 : Sl) =>
  bnd (drf x0) fun (p11 : Addr) =>
  bnd (ld (.int .i64) (Addr.add p11 3)) fun (v12 : Int) =>
  bnd (ix 6 v10 v12) fun (p13 : Addr) =>
  bnd (
  bnd (ordM 63 4 (regionIn 4 Try.f63)) fun (o15 : List Nat) =>
  bnd (drf x0) fun (p16 : Addr) =>
  bnd (ld .ptr (Addr.add p16 2)) fun (v17 : Option Addr) =>
  bnd (drf x0) fun (p18 : Addr) =>
  bnd (ld .ptr (Addr.add p18 2)) fun (v19 : Option Addr) =>
  bnd (f70_frames_page_slots v17 (some p13)) fun (r20 : Sl) =>
  bnd (
  bnd (chk .ptr (Addr.add p18 2) v19) fun _ =>
  ret ()) fun _ =>
  bnd (f34_frames_page_stack v19 (some p13)) fun (r21 : Sl) =>
  bnd (ret ()) fun _ =>
  ret (r20, r21)) fun (s14 : (Sl × Sl)) =>
  ret (s14.1, s14.2))
noncomputable def Af63_frames_context_parts : Ann := (.two .nil (.two (.two .nil (.two (.two .nil .nil) .nil)) (.two .nil (.two (.join [(2, .sl), (3, .sl)] [30, 31, 32, 33, 34, 35, 36, 37, 38, 39, 40, 41] false (.ord 63 [(0, 16382), (1, 16380), (2, 16377), (4, 16371), (0, 16367), (24, 16327), (0, 16319), (64, 16191), (128, 15999), (256, 15615), (0, 15359), (1568, 12799), (2111, 12255), (8191, 6143)] (.o 0 (.o 1 (.o 2 (.o 3 (.o 4 (.o 6 (.o 7 (.o 8 (.o 9 (.o 10 (.o 5 (.o 11 (.o 12 (.o 13 .done)))))))))))))))) .nil))))
theorem Cf63_frames_context_parts_ok : Cf63_frames_context_parts.Ok := mkC_ok mixed tysOk zerosOk eqsOk ⟨Sf34_frames_page_stack, Sf70_frames_page_slots, trivial⟩ trivial
theorem Ef63_frames_context_parts (x : Option Addr) : evF Cf63_frames_context_parts Try.f63 42 .ptr (.tup (.pair .sl .sl)) Af63_frames_context_parts x = f63_frames_context_parts x := by kernel_rfl
theorem Sf63_frames_context_parts : SoundF Try.prog 63 ⟨.ptr, (.tup (.pair .sl .sl)), fun x => f63_frames_context_parts x⟩ :=
  soundF_of Cf63_frames_context_parts_ok Try.func63 (by kernel_rfl) (by kernel_rfl) Ef63_frames_context_parts
noncomputable def Cf21_frames_Stack_Lies : Ctx := mkC Try.prog tys zeros eqs [(62, ⟨(.pair .ptr (.int .i64)), (.tup (.pair .ptr (.int .i64))), fun x => f62_frames_Stack_of x.1 x.2⟩), (63, ⟨.ptr, (.tup (.pair .sl .sl)), fun x => f63_frames_context_parts x⟩), (64, ⟨.sl, .sl, fun x => f64_slices_Cloneint64_int64 x⟩)] []
/-- (*palaverframes.Stack).Lies -/
noncomputable def f21_frames_Stack_Lies (x0 : Option Addr) (x1 : Int) : M (Sl × Int) :=
  bnd (f62_frames_Stack_of x0 x1) fun (r1 : (Option Addr × Int)) =>
  cnd (r1.2 != (0 : Int)) (
  ret ((Sl.mk none 0 0), r1.2)) (
  bnd (f63_frames_context_parts r1.1) fun (r2 : (Sl × Sl)) =>
  bnd (f64_slices_Cloneint64_int64 r2.2) fun (r3 : Sl) =>
  ret (r3, (0 : Int)))
noncomputable def Af21_frames_Stack_Lies : Ann := (.two .nil (.two .nil (.two (.two .nil (.two (.two .nil .nil) .nil)) (.two .nil (.two .nil .nil)))))
theorem Cf21_frames_Stack_Lies_ok : Cf21_frames_Stack_Lies.Ok := mkC_ok mixed tysOk zerosOk eqsOk ⟨Sf62_frames_Stack_of, Sf63_frames_context_parts, Sf64_slices_Cloneint64_int64, trivial⟩ trivial
theorem Ef21_frames_Stack_Lies (x : (Option Addr × Int)) : evF Cf21_frames_Stack_Lies Try.f21 26 (.pair .ptr (.int .i64)) (.tup (.pair .sl (.int .i64))) Af21_frames_Stack_Lies x = f21_frames_Stack_Lies x.1 x.2 := by kernel_rfl
theorem Sf21_frames_Stack_Lies : SoundF Try.prog 21 ⟨(.pair .ptr (.int .i64)), (.tup (.pair .sl (.int .i64))), fun x => f21_frames_Stack_Lies x.1 x.2⟩ :=
  soundF_of Cf21_frames_Stack_Lies_ok Try.func21 (by kernel_rfl) (by kernel_rfl) Ef21_frames_Stack_Lies
noncomputable def Cf25_frames_Stack_Method : Ctx := mkC Try.prog tys zeros eqs [(62, ⟨(.pair .ptr (.int .i64)), (.tup (.pair .ptr (.int .i64))), fun x => f62_frames_Stack_of x.1 x.2⟩)] []
/-- (*palaverframes.Stack).Method -/
noncomputable def f25_frames_Stack_Method (x0 : Option Addr) (x1 : Int) : M (Int × Int) :=
  bnd (f62_frames_Stack_of x0 x1) fun (r1 : (Option Addr × Int)) =>
  cnd (r1.2 != (0 : Int)) (
  ret ((0 : Int), r1.2)) (
  bnd (drf r1.1) fun (p2 : Addr) =>
  bnd (ld .ptr (Addr.add p2 2)) fun (v3 : Option Addr) =>
  cnd (!(Option.isNone v3)) (
  bnd drawM fun _ =>
  bnd (drf r1.1) fun (p4 : Addr) =>
  bnd (ld .ptr (Addr.add p4 2)) fun (v5 : Option Addr) =>
  bnd (drf v5) fun (p6 : Addr) =>
  bnd (ld .sl (Addr.add p6 1)) fun (v7 : Sl) =>
  bnd (drf r1.1) fun (p8 : Addr) =>
  bnd (ld (.int .i64) (Addr.add p8 3)) fun (v9 : Int) =>
  bnd (ix 6 v7 v9) fun (p10 : Addr) =>
  bnd (ld (.int .i64) (Addr.add p10 0)) fun (v11 : Int) =>
  ret (v11, (0 : Int))) (
  bnd (drf r1.1) fun (p12 : Addr) =>
  bnd (ld (.int .i64) (Addr.add p12 4)) fun (v13 : Int) =>
  ret (v13, (0 : Int))))
noncomputable def Af25_frames_Stack_Method : Ann := (.two .nil (.two .nil (.two (.one (.two .nil (.two (.two .nil .nil) (.two .nil (.two (.two .nil .nil) .nil))))) (.two .nil .nil))))
theorem Cf25_frames_Stack_Method_ok : Cf25_frames_Stack_Method.Ok := mkC_ok mixed tysOk zerosOk eqsOk ⟨Sf62_frames_Stack_of, trivial⟩ trivial
theorem Ef25_frames_Stack_Method (x : (Option Addr × Int)) : evF Cf25_frames_Stack_Method Try.f25 42 (.pair .ptr (.int .i64)) (.tup (.pair (.int .i64) (.int .i64))) Af25_frames_Stack_Method x = f25_frames_Stack_Method x.1 x.2 := by kernel_rfl
theorem Sf25_frames_Stack_Method : SoundF Try.prog 25 ⟨(.pair .ptr (.int .i64)), (.tup (.pair (.int .i64) (.int .i64))), fun x => f25_frames_Stack_Method x.1 x.2⟩ :=
  soundF_of Cf25_frames_Stack_Method_ok Try.func25 (by kernel_rfl) (by kernel_rfl) Ef25_frames_Stack_Method
noncomputable def Cf23_frames_Stack_Alive : Ctx := mkC Try.prog tys zeros eqs [(62, ⟨(.pair .ptr (.int .i64)), (.tup (.pair .ptr (.int .i64))), fun x => f62_frames_Stack_of x.1 x.2⟩)] []
/-- (*palaverframes.Stack).Alive -/
noncomputable def f23_frames_Stack_Alive (x0 : Option Addr) (x1 : Int) : M Bool :=
  bnd (f62_frames_Stack_of x0 x1) fun (r1 : (Option Addr × Int)) =>
  ret (r1.2 == (0 : Int))
noncomputable def Af23_frames_Stack_Alive : Ann := (.two .nil (.two .nil (.two .nil .nil)))
theorem Cf23_frames_Stack_Alive_ok : Cf23_frames_Stack_Alive.Ok := mkC_ok mixed tysOk zerosOk eqsOk ⟨Sf62_frames_Stack_of, trivial⟩ trivial
theorem Ef23_frames_Stack_Alive (x : (Option Addr × Int)) : evF Cf23_frames_Stack_Alive Try.f23 15 (.pair .ptr (.int .i64)) .bool Af23_frames_Stack_Alive x = f23_frames_Stack_Alive x.1 x.2 := by kernel_rfl
theorem Sf23_frames_Stack_Alive : SoundF Try.prog 23 ⟨(.pair .ptr (.int .i64)), .bool, fun x => f23_frames_Stack_Alive x.1 x.2⟩ :=
  soundF_of Cf23_frames_Stack_Alive_ok Try.func23 (by kernel_rfl) (by kernel_rfl) Ef23_frames_Stack_Alive
noncomputable def Cf22_palaverlaw23_same : Ctx := mkC Try.prog tys zeros eqs [] []
/-- palaverpalaverlaw23.same -/
noncomputable def f22_palaverlaw23_same (x0 : Sl) (x1 : Sl) : M Bool :=
  cnd ((x0.len : Int) != (x1.len : Int)) (
  ret false) (
  loopM (fun (s1 : Int) =>
  cnd (decide (s1 < (x0.len : Int))) (
  bnd drawM fun _ =>
  bnd (ix 1 x0 s1) fun (p2 : Addr) =>
  bnd (ld (.int .i64) p2) fun (v3 : Int) =>
  bnd (ix 1 x1 s1) fun (p4 : Addr) =>
  bnd (ld (.int .i64) p4) fun (v5 : Int) =>
  cnd (v3 != v5) (
  ret (Sum.inr false)) (
  ret (Sum.inl (IntKind.wrap .i64 (s1 + (1 : Int)))))) (
  ret (Sum.inr true))) (0 : Int))
noncomputable def Af22_palaverlaw23_same : Ann := (.two .nil (.two (.two .nil (.two (.two .nil .nil) .nil)) (.two (.two .nil (.one (.loop [(5, (.int .i64))] [4, 11, 12, 13, 14, 15, 16, 17, 18, 19, 20, 21, 22, 23, 24, 25] (.two (.two .nil (.two .nil .nil)) (.two (.one (.two .nil (.two (.two .nil .nil) .nil))) .nil))))) (.two .nil .nil))))
theorem Cf22_palaverlaw23_same_ok : Cf22_palaverlaw23_same.Ok := mkC_ok mixed tysOk zerosOk eqsOk trivial trivial
theorem Ef22_palaverlaw23_same (x : (Sl × Sl)) : evF Cf22_palaverlaw23_same Try.f22 26 (.pair .sl .sl) .bool Af22_palaverlaw23_same x = f22_palaverlaw23_same x.1 x.2 := by kernel_rfl
theorem Sf22_palaverlaw23_same : SoundF Try.prog 22 ⟨(.pair .sl .sl), .bool, fun x => f22_palaverlaw23_same x.1 x.2⟩ :=
  soundF_of Cf22_palaverlaw23_same_ok Try.func22 (by kernel_rfl) (by kernel_rfl) Ef22_palaverlaw23_same
noncomputable def Cf80_row : Ctx := mkC Try.prog tys zeros eqs [(37, ⟨.ptr, .ptr, fun x => f37_frames_context_from x⟩)] []
/-- row, with what it is given to do -/
noncomputable def f80_row (B : Option Addr → M Bool) (x0 : Option Addr) : M Unit :=
  loopM (fun (s1 : Option Addr) =>
  cnd (!(Option.isNone s1)) (
  bnd (B s1) fun (b2 : Bool) =>
  cnd (!b2) (
  ret (Sum.inr ())) (
  bnd (f37_frames_context_from s1) fun (r3 : Option Addr) =>
  ret (Sum.inl r3))) (
  ret (Sum.inr ()))) x0
noncomputable def Af80_row : Ann := (.one (.loop [(0, .ptr)] [4, 5, 6, 7, 8, 9, 10, 11] (.two (.two .nil (.two .nil .nil)) (.two (.one (.two (.yld 2) (.two .nil .nil))) .nil))))
theorem Cf80_row_ok : Cf80_row.Ok := mkC_ok mixed tysOk zerosOk eqsOk ⟨Sf37_frames_context_from, trivial⟩ trivial
theorem Ef80_row (Y : Nat → Option Addr → M Bool) (l : Nat) (x : Option Addr) : evF { Cf80_row with yl := some ⟨.ptr, Y⟩ } Try.f80 12 (.pair .ptr .yld) (.tup .unit) Af80_row (x, l) = f80_row (Y l) x := by kernel_rfl
theorem Sf80_row : SoundR Try.prog 80 ⟨.ptr, .ptr, fun B x => f80_row B x⟩ :=
  soundR_of Cf80_row_ok Try.func80 (by kernel_rfl) (by kernel_rfl) Ef80_row
noncomputable def Bf65_frames_context_behind : Ctx := mkC Try.prog tys zeros eqs [] []
noncomputable def Cf65_frames_context_behind : Ctx := Bf65_frames_context_behind.with [] [(80, ⟨.ptr, .ptr, fun B x => f80_row B x⟩)]
/-- (*palaverframes.context).behind -/
noncomputable def f65_frames_context_behind (x0 : Option Addr) (x1 : Option Addr) : M Bool :=
  bnd (newC 60 [.pointer x1]) fun (p1 : Addr) =>
  bnd (newC 4 [.bool false]) fun (p2 : Addr) =>
  bnd (enterM 65 [.pointer x0, .pointer x1, undef, .pointer (some p1), .pointer (some p2), undef, .pointer x0, .func (.func 80) #[.pointer x0] #[], undef, undef, undef, undef] (rgIn Try.f65).1 (rgIn Try.f65).2.1 (rgIn Try.f65).2.2) fun (D3 : Nat) =>
  bnd (f80_row (fun (z4 : Option Addr) =>
  bnd (recM 65 [.pointer x0, .pointer x1, undef, .pointer (some p1), .pointer (some p2), undef, .pointer x0, .func (.func 80) #[.pointer x0] #[], undef, undef, undef, undef] (rgIn Try.f65).1 (rgIn Try.f65).2.1 (rgIn Try.f65).2.2 D3) fun _ =>
  bnd (beginM Try.prog (D3 + 1)) fun _ =>
  bnd (ld .ptr p1) fun (v7 : Option Addr) =>
  bnd (runV Try.prog .bool (binOp .eql 60 (.pointer z4) (.pointer v7))) fun (v8 : Bool) =>
  cnd v8 (
  bnd (wrs p2 0 [.bool true]) fun _ =>
  endM Try.prog (D3 + 1) (some .ret)) (
  endM Try.prog (D3 + 1) none)) x0) fun _ =>
  bnd (leaveM Try.prog (D3 + 1)) fun (j5 : Option Code) =>
  match j5 with
  | none =>
  bnd (wrs p2 0 [.bool false]) fun _ =>
  bnd (takeM Try.prog D3) fun _ =>
  bnd (ld .bool p2) fun (v9 : Bool) =>
  ret v9
  | some .ret =>
  bnd (takeM Try.prog D3) fun _ =>
  bnd (ld .bool p2) fun (v10 : Bool) =>
  ret v10
  | some (.exit i6) =>
  cond (Nat.beq i6 0) (
  bnd (wrs p2 0 [.bool false]) fun _ =>
  bnd (takeM Try.prog D3) fun _ =>
  bnd (ld .bool p2) fun (v11 : Bool) =>
  ret v11) (
  fail)
  | some _ => fail
noncomputable def Af65_frames_context_behind : Ann := (.two .nil (.two (.two .nil (.one (.rng 65 .nil (.one (.two .nil (.two (.two .nil .nil) .nil)))))) (.two .nil .nil)))
theorem Bf65_frames_context_behind_ok : Bf65_frames_context_behind.Ok := mkC_ok mixed tysOk zerosOk eqsOk trivial trivial
theorem Cf65_frames_context_behind_ok : Cf65_frames_context_behind.Ok := with_ok Bf65_frames_context_behind_ok trivial ⟨Sf80_row, trivial⟩
theorem Ef65_frames_context_behind (x : (Option Addr × Option Addr)) : evF Cf65_frames_context_behind Try.f65 12 (.pair .ptr .ptr) .bool Af65_frames_context_behind x = f65_frames_context_behind x.1 x.2 := by kernel_rfl
theorem Sf65_frames_context_behind : SoundF Try.prog 65 ⟨(.pair .ptr .ptr), .bool, fun x => f65_frames_context_behind x.1 x.2⟩ :=
  soundF_of Cf65_frames_context_behind_ok Try.func65 (by kernel_rfl) (by kernel_rfl) Ef65_frames_context_behind
noncomputable def Cf26_frames_Stack_SetSender : Ctx := mkC Try.prog tys zeros eqs [(61, ⟨(.pair .ptr (.pair .ptr (.int .i64))), (.tup .unit), fun x => f61_frames_Stack_part x.1 x.2.1 x.2.2⟩), (62, ⟨(.pair .ptr (.int .i64)), (.tup (.pair .ptr (.int .i64))), fun x => f62_frames_Stack_of x.1 x.2⟩), (65, ⟨(.pair .ptr .ptr), .bool, fun x => f65_frames_context_behind x.1 x.2⟩)] []
/-- (*palaverframes.Stack).SetSender -/
noncomputable def f26_frames_Stack_SetSender (x0 : Option Addr) (x1 : Int) (x2 : Int) : M Int :=
  bnd (f62_frames_Stack_of x0 x1) fun (r1 : (Option Addr × Int)) =>
  cnd (r1.2 != (0 : Int)) (
  ret r1.2) (
  bnd (
  cnd (x2 != (0 : Int)) (
  bnd (f62_frames_Stack_of x0 x2) fun (r3 : (Option Addr × Int)) =>
  cnd (r3.2 != (0 : Int)) (
  ret (Sum.inr r3.2)) (
  bnd (f65_frames_context_behind r3.1 r1.1) fun (r5 : Bool) =>
  cnd r5 (
  ret (Sum.inr (238 : Int))) (
  ret (Sum.inl r3.1)))) (
  ret (Sum.inl none))) (fun
  | .inl (s2 : Option Addr) =>
  bnd (drf r1.1) fun (p8 : Addr) =>
  bnd (ld .ptr (Addr.add p8 2)) fun (v9 : Option Addr) =>
  bnd (
  cnd (!(Option.isNone v9)) (
  bnd (
  bnd (ordM 26 12 (regionIn 12 Try.f26)) fun (o12 : List Nat) =>
  bnd (drf r1.1) fun (p13 : Addr) =>
  bnd (ld .ptr (Addr.add p13 2)) fun (v14 : Option Addr) =>
  bnd (drf r1.1) fun (p15 : Addr) =>
  bnd (ld (.int .i64) (Addr.add p15 3)) fun (v16 : Int) =>
  bnd (f61_frames_Stack_part x0 v14 v16) fun (r17 : Unit) =>
  bnd (ret ()) fun _ =>
  ret ()) fun (s11 : Unit) =>
  ret ()) (
  ret ())) fun (s10 : Unit) =>
  bnd (drf r1.1) fun (p18 : Addr) =>
  bnd (wrs (Addr.add p18 8) 0 [.pointer s2]) fun _ =>
  ret (0 : Int)
  | .inr r19 => ret r19))
noncomputable def Af26_frames_Stack_SetSender : Ann := (.two .nil (.two .nil (.two (.two .nil (.two (.two .nil .nil) .nil)) (.two .nil (.two (.two .nil (.join [(9, .ptr)] [6, 8, 21, 22, 23, 24, 25, 26, 27, 28, 29, 30, 31, 32] true (.two (.two (.two .nil (.two .nil (.two (.two .nil .nil) .nil))) (.two .nil (.two (.two .nil .nil) .nil))) .nil))) (.two (.two .nil (.join [] [38, 39, 40, 41, 42, 43, 44, 45, 46, 47] false (.two (.join [] [38, 39, 40, 41, 42, 43, 44, 45, 46, 47] false (.ord 26 [(0, 1022), (0, 1021), (2, 1017), (4, 1011), (8, 999), (0, 991), (32, 927), (64, 831), (128, 639), (273, 238)] (.o 0 (.o 1 (.o 2 (.o 3 (.o 4 (.o 5 (.o 6 (.o 7 (.o 8 (.o 9 .done)))))))))))) .nil))) (.two .nil (.two .nil .nil))))))))
theorem Cf26_frames_Stack_SetSender_ok : Cf26_frames_Stack_SetSender.Ok := mkC_ok mixed tysOk zerosOk eqsOk ⟨Sf61_frames_Stack_part, Sf62_frames_Stack_of, Sf65_frames_context_behind, trivial⟩ trivial
theorem Ef26_frames_Stack_SetSender (x : (Option Addr × (Int × Int))) : evF Cf26_frames_Stack_SetSender Try.f26 52 (.pair .ptr (.pair (.int .i64) (.int .i64))) (.int .i64) Af26_frames_Stack_SetSender x = f26_frames_Stack_SetSender x.1 x.2.1 x.2.2 := by kernel_rfl
theorem Sf26_frames_Stack_SetSender : SoundF Try.prog 26 ⟨(.pair .ptr (.pair (.int .i64) (.int .i64))), (.int .i64), fun x => f26_frames_Stack_SetSender x.1 x.2.1 x.2.2⟩ :=
  soundF_of Cf26_frames_Stack_SetSender_ok Try.func26 (by kernel_rfl) (by kernel_rfl) Ef26_frames_Stack_SetSender
noncomputable def Cf27_frames_Stack_Switch : Ctx := mkC Try.prog tys zeros eqs [(36, ⟨(.pair .ptr .ptr), (.tup .unit), fun x => f36_frames_Stack_activate x.1 x.2⟩), (62, ⟨(.pair .ptr (.int .i64)), (.tup (.pair .ptr (.int .i64))), fun x => f62_frames_Stack_of x.1 x.2⟩)] []
/-- (*palaverframes.Stack).Switch -/
noncomputable def f27_frames_Stack_Switch (x0 : Option Addr) (x1 : Int) : M Int :=
  cnd (x1 == (0 : Int)) (
  bnd (f36_frames_Stack_activate x0 none) fun (r1 : Unit) =>
  ret (0 : Int)) (
  bnd (f62_frames_Stack_of x0 x1) fun (r2 : (Option Addr × Int)) =>
  bnd (
  cnd (r2.2 == (0 : Int)) (
  bnd (f36_frames_Stack_activate x0 r2.1) fun (r4 : Unit) =>
  ret ()) (
  ret ())) fun (s3 : Unit) =>
  ret r2.2)
noncomputable def Af27_frames_Stack_Switch : Ann := (.two .nil (.two (.two .nil (.two (.two .nil (.two .nil .nil)) .nil)) (.two .nil (.two (.two .nil (.join [] [19, 20, 21] false (.two .nil .nil))) (.two .nil .nil)))))
theorem Cf27_frames_Stack_Switch_ok : Cf27_frames_Stack_Switch.Ok := mkC_ok mixed tysOk zerosOk eqsOk ⟨Sf36_frames_Stack_activate, Sf62_frames_Stack_of, trivial⟩ trivial
theorem Ef27_frames_Stack_Switch (x : (Option Addr × Int)) : evF Cf27_frames_Stack_Switch Try.f27 23 (.pair .ptr (.int .i64)) (.int .i64) Af27_frames_Stack_Switch x = f27_frames_Stack_Switch x.1 x.2 := by kernel_rfl
theorem Sf27_frames_Stack_Switch : SoundF Try.prog 27 ⟨(.pair .ptr (.int .i64)), (.int .i64), fun x => f27_frames_Stack_Switch x.1 x.2⟩ :=
  soundF_of Cf27_frames_Stack_Switch_ok Try.func27 (by kernel_rfl) (by kernel_rfl) Ef27_frames_Stack_Switch
noncomputable def Cf6_palaverlaw23_works : Ctx := mkC Try.prog tys zeros eqs [(7, ⟨(.pair (.int .i64) (.pair (.int .i64) (.int .i64))), (.tup (.pair .ptr (.int .i64))), fun x => f7_frames_New x.1 x.2.1 x.2.2⟩), (8, ⟨(.pair .ptr (.pair (.int .i64) (.pair .sl (.int .i64)))), (.int .i64), fun x => f8_frames_Stack_Call x.1 x.2.1 x.2.2.1 x.2.2.2⟩), (9, ⟨(.pair .ptr (.int .i64)), (.int .i64), fun x => f9_frames_Stack_Push x.1 x.2⟩), (11, ⟨(.pair .ptr (.int .i64)), (.int .i64), fun x => f11_frames_Stack_Return x.1 x.2⟩), (18, ⟨.ptr, (.int .i64), fun x => f18_frames_Stack_This x⟩), (21, ⟨(.pair .ptr (.int .i64)), (.tup (.pair .sl (.int .i64))), fun x => f21_frames_Stack_Lies x.1 x.2⟩), (22, ⟨(.pair .sl .sl), .bool, fun x => f22_palaverlaw23_same x.1 x.2⟩), (23, ⟨(.pair .ptr (.int .i64)), .bool, fun x => f23_frames_Stack_Alive x.1 x.2⟩), (24, ⟨(.pair .ptr (.int .i64)), (.tup (.pair (.int .i64) (.int .i64))), fun x => f24_frames_Stack_Sender x.1 x.2⟩), (25, ⟨(.pair .ptr (.int .i64)), (.tup (.pair (.int .i64) (.int .i64))), fun x => f25_frames_Stack_Method x.1 x.2⟩), (26, ⟨(.pair .ptr (.pair (.int .i64) (.int .i64))), (.int .i64), fun x => f26_frames_Stack_SetSender x.1 x.2.1 x.2.2⟩), (27, ⟨(.pair .ptr (.int .i64)), (.int .i64), fun x => f27_frames_Stack_Switch x.1 x.2⟩)] []
/-- palaverpalaverlaw23.works -/
noncomputable def f6_palaverlaw23_works : M Bool :=
  bnd (f7_frames_New (1 : Int) (16 : Int) (9 : Int)) fun (r1 : (Option Addr × Int)) =>
  cnd (cond (Option.isNone r1.1) true (r1.2 != (0 : Int))) (
  ret false) (
  bnd (runV Try.prog .sl (Instr.buildSlice 22 2 #[(0, .int .i64 (1 : Int)), (1, .int .i64 (2 : Int))])) fun (v2 : Sl) =>
  bnd (f8_frames_Stack_Call r1.1 (5 : Int) v2 (3 : Int)) fun (r3 : Int) =>
  bnd (f9_frames_Stack_Push r1.1 (9 : Int)) fun (r4 : Int) =>
  bnd (f18_frames_Stack_This r1.1) fun (r5 : Int) =>
  bnd (f8_frames_Stack_Call r1.1 (6 : Int) (Sl.mk none 0 0) (0 : Int)) fun (r6 : Int) =>
  bnd (f18_frames_Stack_This r1.1) fun (r7 : Int) =>
  bnd (f24_frames_Stack_Sender r1.1 r7) fun (r8 : (Int × Int)) =>
  bnd (f11_frames_Stack_Return r1.1 (4 : Int)) fun (r9 : Int) =>
  bnd (f21_frames_Stack_Lies r1.1 (1 : Int)) fun (r10 : (Sl × Int)) =>
  bnd (f25_frames_Stack_Method r1.1 (2 : Int)) fun (r11 : (Int × Int)) =>
  bnd (f23_frames_Stack_Alive r1.1 (2 : Int)) fun (r12 : Bool) =>
  bnd (runV Try.prog .sl (Instr.buildSlice 22 2 #[(0, .int .i64 (9 : Int)), (1, .int .i64 (4 : Int))])) fun (v13 : Sl) =>
  bnd (f22_palaverlaw23_same r10.1 v13) fun (r14 : Bool) =>
  bnd (f8_frames_Stack_Call r1.1 (2 : Int) (Sl.mk none 0 0) (0 : Int)) fun (r15 : Int) =>
  bnd (f18_frames_Stack_This r1.1) fun (r16 : Int) =>
  bnd (f26_frames_Stack_SetSender r1.1 r16 (0 : Int)) fun (r17 : Int) =>
  bnd (f11_frames_Stack_Return r1.1 (7 : Int)) fun (r18 : Int) =>
  bnd (f18_frames_Stack_This r1.1) fun (r19 : Int) =>
  bnd (f27_frames_Stack_Switch r1.1 (1 : Int)) fun (r20 : Int) =>
  bnd (f7_frames_New (0 : Int) (16 : Int) (9 : Int)) fun (r21 : (Option Addr × Int)) =>
  bnd (runV Try.prog .sl (Instr.makeSlice 22 (.int .i64 (13 : Int)) (.int .i64 (13 : Int)))) fun (v22 : Sl) =>
  bnd (f8_frames_Stack_Call r1.1 (1 : Int) v22 (0 : Int)) fun (r23 : Int) =>
  ret (cond (cond (cond (cond (cond (cond (cond (cond (cond (cond (cond (cond (cond (cond (cond (cond (cond (r3 == (0 : Int)) (r4 == (0 : Int)) false) (r5 == (1 : Int)) false) (r6 == (0 : Int)) false) (r7 == (2 : Int)) false) (r8.1 == (1 : Int)) false) (r8.2 == (0 : Int)) false) (r9 == (0 : Int)) false) (r10.2 == (0 : Int)) false) r14 false) (r11.2 == (235 : Int)) false) (!r12) false) (cond (cond (cond (cond (cond (cond (cond (cond (cond (cond (cond (cond (r17 == (0 : Int)) (r18 == (235 : Int)) false) (r19 == (0 : Int)) false) (r20 == (0 : Int)) false) (r21.2 == (230 : Int)) false) true false) true false) true false) true false) (r11.2 == (235 : Int)) false) true false) (r23 == (237 : Int)) false) true false) false) true false) true false) true false) true false) true false))
noncomputable def Af6_palaverlaw23_works : Ann := (.two .nil (.two .nil (.two (.two .nil (.two (.two .nil .nil) .nil)) (.two .nil (.two .nil (.two .nil (.two .nil (.two .nil (.two .nil (.two .nil (.two .nil (.two .nil (.two .nil (.two .nil (.two .nil (.two .nil (.two .nil (.two .nil (.two .nil (.two .nil (.two .nil (.two .nil (.two .nil (.two .nil .nil))))))))))))))))))))))))
theorem Cf6_palaverlaw23_works_ok : Cf6_palaverlaw23_works.Ok := mkC_ok mixed tysOk zerosOk eqsOk ⟨Sf7_frames_New, Sf8_frames_Stack_Call, Sf9_frames_Stack_Push, Sf11_frames_Stack_Return, Sf18_frames_Stack_This, Sf21_frames_Stack_Lies, Sf22_palaverlaw23_same, Sf23_frames_Stack_Alive, Sf24_frames_Stack_Sender, Sf25_frames_Stack_Method, Sf26_frames_Stack_SetSender, Sf27_frames_Stack_Switch, trivial⟩ trivial
theorem Ef6_palaverlaw23_works (x : Unit) : evF Cf6_palaverlaw23_works Try.f6 186 .unit .bool Af6_palaverlaw23_works x = f6_palaverlaw23_works := by kernel_rfl
theorem Sf6_palaverlaw23_works : SoundF Try.prog 6 ⟨.unit, .bool, fun _ => f6_palaverlaw23_works⟩ :=
  soundF_of Cf6_palaverlaw23_works_ok Try.func6 (by kernel_rfl) (by kernel_rfl) Ef6_palaverlaw23_works
noncomputable def Cf35_frames_Stack_slot : Ctx := mkC Try.prog tys zeros eqs [(28, ⟨.ptr, (.tup (.pair .ptr .ptr)), fun x => f28_frames_Stack_active x⟩), (70, ⟨(.pair .ptr .ptr), .sl, fun x => f70_frames_page_slots x.1 x.2⟩)] []
/-- (*palaverframes.Stack).slot -/
noncomputable def f35_frames_Stack_slot (x0 : Option Addr) (x1 : Int) : M (Option Addr × Int) :=
  bnd (f28_frames_Stack_active x0) fun (r1 : (Option Addr × Option Addr)) =>
  cnd (Option.isNone r1.2) (
  ret (none, (231 : Int))) (
  bnd (
  cnd (decide (x1 < (0 : Int))) (
  ret true) (
  bnd (drf r1.2) fun (p2 : Addr) =>
  bnd (ld (.int .i64) (Addr.add p2 2)) fun (v3 : Int) =>
  ret (decide (x1 ≥ v3)))) fun (b4 : Bool) =>
  cnd b4 (
  ret (none, (232 : Int))) (
  bnd (f70_frames_page_slots r1.1 r1.2) fun (r5 : Sl) =>
  bnd (ix 1 r5 x1) fun (p6 : Addr) =>
  ret ((some p6), (0 : Int))))
noncomputable def Af35_frames_Stack_slot : Ann := (.two .nil (.two .nil (.two (.one (.two .nil (.two (.two .nil .nil) (.two .nil (.two (.two .nil .nil) .nil))))) (.two .nil .nil))))
theorem Cf35_frames_Stack_slot_ok : Cf35_frames_Stack_slot.Ok := mkC_ok mixed tysOk zerosOk eqsOk ⟨Sf28_frames_Stack_active, Sf70_frames_page_slots, trivial⟩ trivial
theorem Ef35_frames_Stack_slot (x : (Option Addr × Int)) : evF Cf35_frames_Stack_slot Try.f35 32 (.pair .ptr (.int .i64)) (.tup (.pair .ptr (.int .i64))) Af35_frames_Stack_slot x = f35_frames_Stack_slot x.1 x.2 := by kernel_rfl
theorem Sf35_frames_Stack_slot : SoundF Try.prog 35 ⟨(.pair .ptr (.int .i64)), (.tup (.pair .ptr (.int .i64))), fun x => f35_frames_Stack_slot x.1 x.2⟩ :=
  soundF_of Cf35_frames_Stack_slot_ok Try.func35 (by kernel_rfl) (by kernel_rfl) Ef35_frames_Stack_slot
noncomputable def Cf10_frames_Stack_Set : Ctx := mkC Try.prog tys zeros eqs [(35, ⟨(.pair .ptr (.int .i64)), (.tup (.pair .ptr (.int .i64))), fun x => f35_frames_Stack_slot x.1 x.2⟩)] []
/-- (*palaverframes.Stack).Set -/
noncomputable def f10_frames_Stack_Set (x0 : Option Addr) (x1 : Int) (x2 : Int) : M Int :=
  bnd (f35_frames_Stack_slot x0 x1) fun (r1 : (Option Addr × Int)) =>
  bnd (
  cnd (r1.2 == (0 : Int)) (
  bnd (drf r1.1) fun (p3 : Addr) =>
  bnd (wrs p3 0 [.int .i64 x2]) fun _ =>
  ret ()) (
  ret ())) fun (s2 : Unit) =>
  ret r1.2
noncomputable def Af10_frames_Stack_Set : Ann := (.two .nil (.two .nil (.two (.two .nil (.join [] [17, 18, 19] false (.two .nil .nil))) (.two .nil .nil))))
theorem Cf10_frames_Stack_Set_ok : Cf10_frames_Stack_Set.Ok := mkC_ok mixed tysOk zerosOk eqsOk ⟨Sf35_frames_Stack_slot, trivial⟩ trivial
theorem Ef10_frames_Stack_Set (x : (Option Addr × (Int × Int))) : evF Cf10_frames_Stack_Set Try.f10 21 (.pair .ptr (.pair (.int .i64) (.int .i64))) (.int .i64) Af10_frames_Stack_Set x = f10_frames_Stack_Set x.1 x.2.1 x.2.2 := by kernel_rfl
theorem Sf10_frames_Stack_Set : SoundF Try.prog 10 ⟨(.pair .ptr (.pair (.int .i64) (.int .i64))), (.int .i64), fun x => f10_frames_Stack_Set x.1 x.2.1 x.2.2⟩ :=
  soundF_of Cf10_frames_Stack_Set_ok Try.func10 (by kernel_rfl) (by kernel_rfl) Ef10_frames_Stack_Set
noncomputable def Cf12_frames_Stack_Pop : Ctx := mkC Try.prog tys zeros eqs [(28, ⟨.ptr, (.tup (.pair .ptr .ptr)), fun x => f28_frames_Stack_active x⟩), (34, ⟨(.pair .ptr .ptr), .sl, fun x => f34_frames_page_stack x.1 x.2⟩)] []
/-- (*palaverframes.Stack).Pop -/
noncomputable def f12_frames_Stack_Pop (x0 : Option Addr) : M (Int × Int) :=
  bnd (f28_frames_Stack_active x0) fun (r1 : (Option Addr × Option Addr)) =>
  cnd (Option.isNone r1.2) (
  ret ((0 : Int), (231 : Int))) (
  bnd (drf r1.2) fun (p2 : Addr) =>
  bnd (ld (.int .i64) (Addr.add p2 3)) fun (v3 : Int) =>
  cnd (v3 == (0 : Int)) (
  ret ((0 : Int), (233 : Int))) (
  bnd (
  bnd (ordM 12 6 (regionIn 6 Try.f12)) fun (o5 : List Nat) =>
  bnd (drf r1.2) fun (p6 : Addr) =>
  bnd (ld (.int .i64) (Addr.add p6 3)) fun (v7 : Int) =>
  bnd (f34_frames_page_stack r1.1 r1.2) fun (r8 : Sl) =>
  bnd (
  bnd (chk (.int .i64) (Addr.add p6 3) v7) fun _ =>
  ret ()) fun _ =>
  bnd (ix 1 r8 (IntKind.wrap .i64 (v7 - (1 : Int)))) fun (p9 : Addr) =>
  bnd (ld (.int .i64) p9) fun (v10 : Int) =>
  ret v10) fun (s4 : Int) =>
  bnd (drf r1.2) fun (p11 : Addr) =>
  bnd (ld (.int .i64) (Addr.add p11 3)) fun (v12 : Int) =>
  bnd (drf r1.2) fun (p13 : Addr) =>
  bnd (wrs (Addr.add p13 3) 0 [.int .i64 (IntKind.wrap .i64 (v12 - (1 : Int)))]) fun _ =>
  ret (s4, (0 : Int))))
noncomputable def Af12_frames_Stack_Pop : Ann := (.two .nil (.two .nil (.two (.one (.two .nil (.two (.two .nil .nil) (.two .nil (.two (.two .nil .nil) .nil))))) (.two (.join [(6, (.int .i64))] [21, 22, 23, 24, 25, 26, 27, 28, 29, 30] false (.ord 12 [(0, 2046), (0, 2045), (3, 2040), (0, 2039), (8, 2023), (16, 1999), (32, 1951), (64, 1855), (132, 1659), (256, 1279), (1023, 511)] (.o 0 (.o 1 (.o 3 (.o 4 (.o 5 (.o 6 (.o 7 (.o 2 (.o 8 (.o 9 (.o 10 .done))))))))))))) (.two .nil (.two .nil .nil))))))
theorem Cf12_frames_Stack_Pop_ok : Cf12_frames_Stack_Pop.Ok := mkC_ok mixed tysOk zerosOk eqsOk ⟨Sf28_frames_Stack_active, Sf34_frames_page_stack, trivial⟩ trivial
theorem Ef12_frames_Stack_Pop (x : Option Addr) : evF Cf12_frames_Stack_Pop Try.f12 39 .ptr (.tup (.pair (.int .i64) (.int .i64))) Af12_frames_Stack_Pop x = f12_frames_Stack_Pop x := by kernel_rfl
theorem Sf12_frames_Stack_Pop : SoundF Try.prog 12 ⟨.ptr, (.tup (.pair (.int .i64) (.int .i64))), fun x => f12_frames_Stack_Pop x⟩ :=
  soundF_of Cf12_frames_Stack_Pop_ok Try.func12 (by kernel_rfl) (by kernel_rfl) Ef12_frames_Stack_Pop
noncomputable def Cf13_frames_Stack_Get : Ctx := mkC Try.prog tys zeros eqs [(35, ⟨(.pair .ptr (.int .i64)), (.tup (.pair .ptr (.int .i64))), fun x => f35_frames_Stack_slot x.1 x.2⟩)] []
/-- (*palaverframes.Stack).Get -/
noncomputable def f13_frames_Stack_Get (x0 : Option Addr) (x1 : Int) : M (Int × Int) :=
  bnd (f35_frames_Stack_slot x0 x1) fun (r1 : (Option Addr × Int)) =>
  cnd (r1.2 != (0 : Int)) (
  ret ((0 : Int), r1.2)) (
  bnd (drf r1.1) fun (p2 : Addr) =>
  bnd (ld (.int .i64) p2) fun (v3 : Int) =>
  ret (v3, (0 : Int)))
noncomputable def Af13_frames_Stack_Get : Ann := (.two .nil (.two .nil (.two (.two .nil (.two (.two .nil .nil) .nil)) (.two .nil .nil))))
theorem Cf13_frames_Stack_Get_ok : Cf13_frames_Stack_Get.Ok := mkC_ok mixed tysOk zerosOk eqsOk ⟨Sf35_frames_Stack_slot, trivial⟩ trivial
theorem Ef13_frames_Stack_Get (x : (Option Addr × Int)) : evF Cf13_frames_Stack_Get Try.f13 20 (.pair .ptr (.int .i64)) (.tup (.pair (.int .i64) (.int .i64))) Af13_frames_Stack_Get x = f13_frames_Stack_Get x.1 x.2 := by kernel_rfl
theorem Sf13_frames_Stack_Get : SoundF Try.prog 13 ⟨(.pair .ptr (.int .i64)), (.tup (.pair (.int .i64) (.int .i64))), fun x => f13_frames_Stack_Get x.1 x.2⟩ :=
  soundF_of Cf13_frames_Stack_Get_ok Try.func13 (by kernel_rfl) (by kernel_rfl) Ef13_frames_Stack_Get
noncomputable def Cf14_frames_Stack_Count : Ctx := mkC Try.prog tys zeros eqs [] []
/-- (*palaverframes.Stack).Count -/
noncomputable def f14_frames_Stack_Count (x0 : Option Addr) : M (Int × Int) :=
  bnd (drf x0) fun (p1 : Addr) =>
  bnd (ld .sl (Addr.add p1 0)) fun (v2 : Sl) =>
  loopM (fun (s3 : (Int × Int)) =>
  cnd (decide (s3.2 < (v2.len : Int))) (
  bnd (ix 1 v2 s3.2) fun (p4 : Addr) =>
  bnd (ld .ptr p4) fun (v5 : Option Addr) =>
  bnd (drf v5) fun (p6 : Addr) =>
  bnd (ld .sl (Addr.add p6 1)) fun (v7 : Sl) =>
  ret (Sum.inl ((IntKind.wrap .i64 (s3.1 + (v7.len : Int))), (IntKind.wrap .i64 (s3.2 + (1 : Int)))))) (
  bnd (
  bnd (drf x0) fun (p8 : Addr) =>
  bnd (ld (.int .i64) (Addr.add p8 6)) fun (v9 : Int) =>
  ret (v9, s3.1)) fun r10 =>
  ret (Sum.inr r10))) ((0 : Int), (0 : Int))
noncomputable def Af14_frames_Stack_Count : Ann := (.two .nil (.two .nil (.two (.two .nil (.one (.loop [(4, (.int .i64)), (12, (.int .i64))] [6, 13, 14, 15, 16, 17, 18, 19, 20, 21, 22, 23] (.two .nil (.two (.two .nil .nil) (.two (.one (.two .nil .nil)) .nil)))))) (.two .nil .nil))))
theorem Cf14_frames_Stack_Count_ok : Cf14_frames_Stack_Count.Ok := mkC_ok mixed tysOk zerosOk eqsOk trivial trivial
theorem Ef14_frames_Stack_Count (x : Option Addr) : evF Cf14_frames_Stack_Count Try.f14 29 .ptr (.tup (.pair (.int .i64) (.int .i64))) Af14_frames_Stack_Count x = f14_frames_Stack_Count x := by kernel_rfl
theorem Sf14_frames_Stack_Count : SoundF Try.prog 14 ⟨.ptr, (.tup (.pair (.int .i64) (.int .i64))), fun x => f14_frames_Stack_Count x⟩ :=
  soundF_of Cf14_frames_Stack_Count_ok Try.func14 (by kernel_rfl) (by kernel_rfl) Ef14_frames_Stack_Count
noncomputable def Cf3_palaverlaw23_FramesBack : Ctx := mkC Try.prog tys zeros eqs [(6, ⟨.unit, .bool, fun _ => f6_palaverlaw23_works⟩), (7, ⟨(.pair (.int .i64) (.pair (.int .i64) (.int .i64))), (.tup (.pair .ptr (.int .i64))), fun x => f7_frames_New x.1 x.2.1 x.2.2⟩), (8, ⟨(.pair .ptr (.pair (.int .i64) (.pair .sl (.int .i64)))), (.int .i64), fun x => f8_frames_Stack_Call x.1 x.2.1 x.2.2.1 x.2.2.2⟩), (9, ⟨(.pair .ptr (.int .i64)), (.int .i64), fun x => f9_frames_Stack_Push x.1 x.2⟩), (10, ⟨(.pair .ptr (.pair (.int .i64) (.int .i64))), (.int .i64), fun x => f10_frames_Stack_Set x.1 x.2.1 x.2.2⟩), (11, ⟨(.pair .ptr (.int .i64)), (.int .i64), fun x => f11_frames_Stack_Return x.1 x.2⟩), (12, ⟨.ptr, (.tup (.pair (.int .i64) (.int .i64))), fun x => f12_frames_Stack_Pop x⟩), (13, ⟨(.pair .ptr (.int .i64)), (.tup (.pair (.int .i64) (.int .i64))), fun x => f13_frames_Stack_Get x.1 x.2⟩), (14, ⟨.ptr, (.tup (.pair (.int .i64) (.int .i64))), fun x => f14_frames_Stack_Count x⟩)] []
/-- palaverpalaverlaw23.FramesBack -/
noncomputable def f3_palaverlaw23_FramesBack (x0 : Int) (x1 : Int) (x2 : Sl) (x3 : Int) : M Bool :=
  bnd f6_palaverlaw23_works fun (r1 : Bool) =>
  bnd (f7_frames_New x0 x1 (65536 : Int)) fun (r2 : (Option Addr × Int)) =>
  cnd (cond (r2.2 != (0 : Int)) true (Option.isNone r2.1)) (
  ret (cond r1 ((r2.2 == (0 : Int)) == (!(Option.isNone r2.1))) false)) (
  cnd (cond (decide (x3 < (1 : Int))) true (decide (x3 > (1000 : Int)))) (
  ret r1) (
  loopM (fun (s3 : Int) =>
  cnd (decide (s3 < x3)) (
  bnd (slc 1 x2 none (some (minI (x2.len : Int) (6 : Int))) none) fun (v4 : Sl) =>
  bnd (f8_frames_Stack_Call r2.1 s3 v4 (3 : Int)) fun (r5 : Int) =>
  bnd (f9_frames_Stack_Push r2.1 (IntKind.wrap .i64 ((100 : Int) + s3))) fun (r6 : Int) =>
  cnd (cond (r5 != (0 : Int)) true (r6 != (0 : Int))) (
  ret (Sum.inr (cond (cond (cond r1 (s3 == (0 : Int)) false) (r5 == (237 : Int)) false) (decide (x1 < (IntKind.wrap .i64 ((minI (x2.len : Int) (6 : Int)) + (7 : Int))))) false))) (
  bnd (
  cnd (decide ((minI (x2.len : Int) (6 : Int)) > (0 : Int))) (
  bnd (nz (minI (x2.len : Int) (6 : Int))) fun _ =>
  bnd (f10_frames_Stack_Set r2.1 (Int.tmod s3 (minI (x2.len : Int) (6 : Int))) s3) fun (r8 : Int) =>
  ret ()) (
  ret ())) fun (s7 : Unit) =>
  ret (Sum.inl (IntKind.wrap .i64 (s3 + (1 : Int)))))) (
  bnd (
  loopM (fun (s9 : Int) =>
  cnd (decide (s9 > (0 : Int))) (
  bnd (f11_frames_Stack_Return r2.1 (IntKind.wrap .i64 (0 - s9))) fun (r10 : Int) =>
  bnd (f12_frames_Stack_Pop r2.1) fun (r11 : (Int × Int)) =>
  bnd (f12_frames_Stack_Pop r2.1) fun (r12 : (Int × Int)) =>
  bnd (f9_frames_Stack_Push r2.1 r12.1) fun (r13 : Int) =>
  cnd (cond (cond (cond (cond (cond (r10 != (0 : Int)) true (r11.2 != (0 : Int))) true (r12.2 != (0 : Int))) true (r13 != (0 : Int))) true (r11.1 != (IntKind.wrap .i64 (0 - s9)))) true (r12.1 != (IntKind.wrap .i64 ((IntKind.wrap .i64 ((100 : Int) + s9)) - (1 : Int))))) (
  ret (Sum.inr false)) (
  loopM (fun (s14 : Int) =>
  cnd (decide (s14 < (minI (x2.len : Int) (6 : Int)))) (
  bnd (f13_frames_Stack_Get r2.1 s14) fun (r15 : (Int × Int)) =>
  bnd (ix 1 x2 s14) fun (p16 : Addr) =>
  bnd (ld (.int .i64) p16) fun (v17 : Int) =>
  bnd (nz (minI (x2.len : Int) (6 : Int))) fun _ =>
  bnd (
  cnd (s14 == (Int.tmod (IntKind.wrap .i64 (s9 - (1 : Int))) (minI (x2.len : Int) (6 : Int)))) (
  ret (IntKind.wrap .i64 (s9 - (1 : Int)))) (
  ret v17)) fun (s18 : Int) =>
  cnd (cond (r15.1 != s18) true (r15.2 != (0 : Int))) (
  ret (Sum.inr (Sum.inr false))) (
  ret (Sum.inl (IntKind.wrap .i64 (s14 + (1 : Int)))))) (
  ret (Sum.inr (Sum.inl (IntKind.wrap .i64 (s9 - (1 : Int))))))) (0 : Int))) (
  bnd (
  bnd (f11_frames_Stack_Return r2.1 (0 : Int)) fun (r19 : Int) =>
  bnd (f14_frames_Stack_Count r2.1) fun (r20 : (Int × Int)) =>
  ret (cond (cond (cond r1 (r19 == (235 : Int)) false) (r20.1 == (0 : Int)) false) (r20.2 == (0 : Int)) false)) fun r21 =>
  ret (Sum.inr r21))) (IntKind.wrap .i64 (x3 - (1 : Int)))) fun r22 =>
  ret (Sum.inr r22))) (0 : Int)))
noncomputable def Af3_palaverlaw23_FramesBack : Ann := (.two .nil (.two .nil (.two .nil (.two (.two .nil (.two (.two .nil .nil) .nil)) (.two .nil (.two (.two .nil (.two (.two .nil .nil) .nil)) (.two (.two .nil (.one (.loop [(13, (.int .i64))] [8, 14, 15, 60, 61, 62, 63, 64, 65, 66, 67, 68, 69, 70, 71, 72, 73, 74, 75, 76, 77, 78, 79, 80, 81, 82, 83, 84, 85, 86, 87, 88, 89, 90, 91, 92, 93, 94, 95, 96, 97, 98, 99, 100, 101, 102, 103] (.two (.two .nil (.two .nil .nil)) (.two (.one (.two .nil (.two .nil (.two (.two .nil (.two (.two .nil .nil) .nil)) (.two .nil (.join [] [98, 99, 100, 101, 102, 103] false (.two .nil .nil))))))) .nil))))) (.two (.two .nil (.one (.loop [(16, (.int .i64))] [8, 17, 18, 19, 20, 21, 22, 23, 24, 25, 26, 106, 107, 108, 109, 110, 111, 112, 113, 114, 115, 116, 117, 118, 119, 120, 121, 122, 123, 124, 125, 126, 127, 128, 129, 130, 131, 132, 133, 134, 135, 136, 137, 138, 139, 140, 141, 142, 143, 144, 145, 146, 147, 148, 149, 150, 151, 152, 153, 154, 155, 156, 157, 158, 159, 160, 161, 162, 163, 164, 165, 166, 167, 168, 169, 170, 171, 172, 173, 174, 175, 176, 177, 178, 179, 180, 181, 182, 183] (.two (.two .nil (.two .nil .nil)) (.two (.one (.two .nil (.two .nil (.two .nil (.two .nil (.two (.two .nil (.two (.two .nil .nil) .nil)) (.two .nil (.one (.loop [(23, (.int .i64))] [8, 24, 25, 26, 154, 155, 156, 157, 158, 159, 160, 161, 162, 163, 164, 165, 166, 167, 168, 169, 170, 171, 172, 173, 174, 175, 176, 177, 178, 179, 180, 181, 182, 183] (.two (.two .nil (.two .nil .nil)) (.two (.one (.two .nil (.two .nil (.two (.two .nil (.join [(26, (.int .i64))] [175, 176] false (.two .nil .nil))) (.two .nil (.two (.two .nil .nil) .nil)))))) .nil))))))))))) .nil))))) (.two .nil (.two .nil (.two .nil .nil)))))))))))
theorem Cf3_palaverlaw23_FramesBack_ok : Cf3_palaverlaw23_FramesBack.Ok := mkC_ok mixed tysOk zerosOk eqsOk ⟨Sf6_palaverlaw23_works, Sf7_frames_New, Sf8_frames_Stack_Call, Sf9_frames_Stack_Push, Sf10_frames_Stack_Set, Sf11_frames_Stack_Return, Sf12_frames_Stack_Pop, Sf13_frames_Stack_Get, Sf14_frames_Stack_Count, trivial⟩ trivial
theorem Ef3_palaverlaw23_FramesBack (x : (Int × (Int × (Sl × Int)))) : evF Cf3_palaverlaw23_FramesBack Try.f3 204 (.pair (.int .i64) (.pair (.int .i64) (.pair .sl (.int .i64)))) .bool Af3_palaverlaw23_FramesBack x = f3_palaverlaw23_FramesBack x.1 x.2.1 x.2.2.1 x.2.2.2 := by kernel_rfl
theorem Sf3_palaverlaw23_FramesBack : SoundF Try.prog 3 ⟨(.pair (.int .i64) (.pair (.int .i64) (.pair .sl (.int .i64)))), .bool, fun x => f3_palaverlaw23_FramesBack x.1 x.2.1 x.2.2.1 x.2.2.2⟩ :=
  soundF_of Cf3_palaverlaw23_FramesBack_ok Try.func3 (by kernel_rfl) (by kernel_rfl) Ef3_palaverlaw23_FramesBack
noncomputable def Cf15_palaverref23_New : Ctx := mkC Try.prog tys zeros eqs [] []
/-- palaverpalaverref23.New -/
noncomputable def f15_palaverref23_New (x0 : Int) (x1 : Int) (x2 : Int) : M (Option Addr × Int) :=
  cnd (cond (cond (cond (cond (cond (decide (x0 < (1 : Int))) true (decide (x0 > (64 : Int)))) true (decide (x1 < (16 : Int)))) true (decide (x1 > (4096 : Int)))) true (decide (x2 < (1 : Int)))) true (decide (x2 > (65536 : Int)))) (
  ret (none, (230 : Int))) (
  bnd (newC 86 [.int .i64 x1, .int .i64 x2, .slice none 0 0, .int .i64 (-1 : Int), .slice none 0 0, .int .i64 (0 : Int)]) fun (p1 : Addr) =>
  ret ((some p1), (0 : Int)))
noncomputable def Af15_palaverref23_New : Ann := (.two .nil (.two (.two .nil (.two (.two .nil .nil) .nil)) (.two .nil .nil)))
theorem Cf15_palaverref23_New_ok : Cf15_palaverref23_New.Ok := mkC_ok mixed tysOk zerosOk eqsOk trivial trivial
theorem Ef15_palaverref23_New (x : (Int × (Int × Int))) : evF Cf15_palaverref23_New Try.f15 34 (.pair (.int .i64) (.pair (.int .i64) (.int .i64))) (.tup (.pair .ptr (.int .i64))) Af15_palaverref23_New x = f15_palaverref23_New x.1 x.2.1 x.2.2 := by kernel_rfl
theorem Sf15_palaverref23_New : SoundF Try.prog 15 ⟨(.pair (.int .i64) (.pair (.int .i64) (.int .i64))), (.tup (.pair .ptr (.int .i64))), fun x => f15_palaverref23_New x.1 x.2.1 x.2.2⟩ :=
  soundF_of Cf15_palaverref23_New_ok Try.func15 (by kernel_rfl) (by kernel_rfl) Ef15_palaverref23_New
noncomputable def Cf40_palaverref23_Stack_Call : Ctx := mkC Try.prog tys zeros eqs [] []
/-- (*palaverpalaverref23.Stack).Call -/
noncomputable def f40_palaverref23_Stack_Call (x0 : Option Addr) (x1 : Int) (x2 : Sl) (x3 : Int) : M Int :=
  bnd (
  cnd (decide (x3 < (0 : Int))) (
  ret true) (
  bnd (drf x0) fun (p1 : Addr) =>
  bnd (ld (.int .i64) (Addr.add p1 0)) fun (v2 : Int) =>
  ret (decide (x3 > v2)))) fun (b3 : Bool) =>
  bnd (
  cnd b3 (
  ret true) (
  bnd (drf x0) fun (p4 : Addr) =>
  bnd (ld (.int .i64) (Addr.add p4 0)) fun (v5 : Int) =>
  ret (decide ((IntKind.wrap .i64 ((IntKind.wrap .i64 ((x2.len : Int) + x3)) + (4 : Int))) > v5)))) fun (b6 : Bool) =>
  cnd b6 (
  ret (237 : Int)) (
  bnd drawM fun _ =>
  bnd (drf x0) fun (p7 : Addr) =>
  bnd (ld (.int .i64) (Addr.add p7 5)) fun (v8 : Int) =>
  bnd (drf x0) fun (p9 : Addr) =>
  bnd (ld (.int .i64) (Addr.add p9 1)) fun (v10 : Int) =>
  cnd (decide (v8 ≥ v10)) (
  ret (236 : Int)) (
  bnd (drf x0) fun (p11 : Addr) =>
  bnd (ld (.int .i64) (Addr.add p11 3)) fun (v12 : Int) =>
  bnd (newC 104 [.int .i64 (0 : Int), .slice none 0 0, .slice none 0 0, .int .i64 (0 : Int), .int .i64 (0 : Int), .bool false, .int .i64 (0 : Int)]) fun (p13 : Addr) =>
  bnd (wrs p13 0 [.int .i64 x1, .slice none 0 0, .slice none 0 0, .int .i64 x3, .int .i64 v12, .bool true, .int .i64 (0 : Int)]) fun _ =>
  bnd (ld .sl (Addr.add p13 1)) fun (v14 : Sl) =>
  bnd (runV Try.prog .sl (Builtin.append_ #[22, 22] 22 #[.slice v14.a v14.len v14.cap, .slice x2.a x2.len x2.cap])) fun (v15 : Sl) =>
  bnd (wrs (Addr.add p13 1) 0 [.slice v15.a v15.len v15.cap]) fun _ =>
  bnd (
  bnd (ordM 40 7 (regionIn 7 Try.f40)) fun (o17 : List Nat) =>
  bnd (drf x0) fun (p18 : Addr) =>
  bnd (ld .sl (Addr.add p18 2)) fun (v19 : Sl) =>
  bnd (ld (.agg (.pair (.int .i64) (.pair .sl (.pair .sl (.pair (.int .i64) (.pair (.int .i64) (.pair .bool (.int .i64)))))))) p13) fun (v20 : (Int × (Sl × (Sl × (Int × (Int × (Bool × Int))))))) =>
  bnd (runV Try.prog .sl (Instr.buildSlice 83 1 #[(0, .agg #[.int .i64 v20.1, .slice v20.2.1.a v20.2.1.len v20.2.1.cap, .slice v20.2.2.1.a v20.2.2.1.len v20.2.2.1.cap, .int .i64 v20.2.2.2.1, .int .i64 v20.2.2.2.2.1, .bool v20.2.2.2.2.2.1, .int .i64 v20.2.2.2.2.2.2])])) fun (v21 : Sl) =>
  bnd (
  bnd (chk .sl (Addr.add p18 2) v19) fun _ =>
  ret ()) fun _ =>
  bnd (runV Try.prog .sl (Builtin.append_ #[83, 83] 83 #[.slice v19.a v19.len v19.cap, .slice v21.a v21.len v21.cap])) fun (v22 : Sl) =>
  bnd (ret ()) fun _ =>
  bnd (drf x0) fun (p23 : Addr) =>
  bnd (wrs (Addr.add p23 2) 0 [.slice v22.a v22.len v22.cap]) fun _ =>
  bnd (ret ()) fun _ =>
  ret ()) fun (s16 : Unit) =>
  bnd (drf x0) fun (p24 : Addr) =>
  bnd (ld .sl (Addr.add p24 2)) fun (v25 : Sl) =>
  bnd (drf x0) fun (p26 : Addr) =>
  bnd (wrs (Addr.add p26 3) 0 [.int .i64 (IntKind.wrap .i64 ((v25.len : Int) - (1 : Int)))]) fun _ =>
  bnd (drf x0) fun (p27 : Addr) =>
  bnd (ld (.int .i64) (Addr.add p27 5)) fun (v28 : Int) =>
  bnd (drf x0) fun (p29 : Addr) =>
  bnd (wrs (Addr.add p29 5) 0 [.int .i64 (IntKind.wrap .i64 (v28 + (1 : Int)))]) fun _ =>
  ret (0 : Int)))
noncomputable def Af40_palaverref23_Stack_Call : Ann := (.two .nil (.two (.two .nil (.two (.two .nil .nil) .nil)) (.two (.two .nil (.two (.two .nil .nil) .nil)) (.two .nil (.two .nil (.two (.join [] [53, 54, 55, 56, 57, 58, 59, 60, 61, 62] false (.ord 40 [(0, 2046), (0, 2045), (2, 2041), (4, 2035), (8, 2023), (0, 2015), (32, 1951), (80, 1839), (255, 1790), (511, 1279), (767, 383)] (.o 0 (.o 1 (.o 2 (.o 3 (.o 4 (.o 5 (.o 6 (.o 7 (.o 8 (.o 9 (.o 10 .done))))))))))))) (.two .nil (.two .nil (.two .nil .nil)))))))))
theorem Cf40_palaverref23_Stack_Call_ok : Cf40_palaverref23_Stack_Call.Ok := mkC_ok mixed tysOk zerosOk eqsOk trivial trivial
theorem Ef40_palaverref23_Stack_Call (x : (Option Addr × (Int × (Sl × Int)))) : evF Cf40_palaverref23_Stack_Call Try.f40 79 (.pair .ptr (.pair (.int .i64) (.pair .sl (.int .i64)))) (.int .i64) Af40_palaverref23_Stack_Call x = f40_palaverref23_Stack_Call x.1 x.2.1 x.2.2.1 x.2.2.2 := by kernel_rfl
theorem Sf40_palaverref23_Stack_Call : SoundF Try.prog 40 ⟨(.pair .ptr (.pair (.int .i64) (.pair .sl (.int .i64)))), (.int .i64), fun x => f40_palaverref23_Stack_Call x.1 x.2.1 x.2.2.1 x.2.2.2⟩ :=
  soundF_of Cf40_palaverref23_Stack_Call_ok Try.func40 (by kernel_rfl) (by kernel_rfl) Ef40_palaverref23_Stack_Call
noncomputable def Cf41_palaverref23_Stack_Push : Ctx := mkC Try.prog tys zeros eqs [] []
/-- (*palaverpalaverref23.Stack).Push -/
noncomputable def f41_palaverref23_Stack_Push (x0 : Option Addr) (x1 : Int) : M Int :=
  bnd (drf x0) fun (p1 : Addr) =>
  bnd (ld (.int .i64) (Addr.add p1 3)) fun (v2 : Int) =>
  cnd (decide (v2 < (0 : Int))) (
  ret (231 : Int)) (
  bnd drawM fun _ =>
  bnd (drf x0) fun (p3 : Addr) =>
  bnd (ld .sl (Addr.add p3 2)) fun (v4 : Sl) =>
  bnd (drf x0) fun (p5 : Addr) =>
  bnd (ld (.int .i64) (Addr.add p5 3)) fun (v6 : Int) =>
  bnd (ix 7 v4 v6) fun (p7 : Addr) =>
  bnd drawM fun _ =>
  bnd (ld .sl (Addr.add p7 2)) fun (v8 : Sl) =>
  bnd (ld (.int .i64) (Addr.add p7 3)) fun (v9 : Int) =>
  cnd (decide ((v8.len : Int) ≥ v9)) (
  ret (236 : Int)) (
  bnd (ld .sl (Addr.add p7 2)) fun (v10 : Sl) =>
  bnd (runV Try.prog .sl (Instr.buildSlice 22 1 #[(0, .int .i64 x1)])) fun (v11 : Sl) =>
  bnd (runV Try.prog .sl (Builtin.append_ #[22, 22] 22 #[.slice v10.a v10.len v10.cap, .slice v11.a v11.len v11.cap])) fun (v12 : Sl) =>
  bnd (wrs (Addr.add p7 2) 0 [.slice v12.a v12.len v12.cap]) fun _ =>
  ret (0 : Int)))
noncomputable def Af41_palaverref23_Stack_Push : Ann := (.two .nil (.two (.two .nil (.two (.two .nil .nil) .nil)) (.two .nil (.two (.two .nil (.two (.two .nil .nil) .nil)) (.two .nil (.two .nil .nil))))))
theorem Cf41_palaverref23_Stack_Push_ok : Cf41_palaverref23_Stack_Push.Ok := mkC_ok mixed tysOk zerosOk eqsOk trivial trivial
theorem Ef41_palaverref23_Stack_Push (x : (Option Addr × Int)) : evF Cf41_palaverref23_Stack_Push Try.f41 40 (.pair .ptr (.int .i64)) (.int .i64) Af41_palaverref23_Stack_Push x = f41_palaverref23_Stack_Push x.1 x.2 := by kernel_rfl
theorem Sf41_palaverref23_Stack_Push : SoundF Try.prog 41 ⟨(.pair .ptr (.int .i64)), (.int .i64), fun x => f41_palaverref23_Stack_Push x.1 x.2⟩ :=
  soundF_of Cf41_palaverref23_Stack_Push_ok Try.func41 (by kernel_rfl) (by kernel_rfl) Ef41_palaverref23_Stack_Push
noncomputable def Cf42_palaverref23_Stack_Pop : Ctx := mkC Try.prog tys zeros eqs [] []
/-- (*palaverpalaverref23.Stack).Pop -/
noncomputable def f42_palaverref23_Stack_Pop (x0 : Option Addr) : M (Int × Int) :=
  bnd (drf x0) fun (p1 : Addr) =>
  bnd (ld (.int .i64) (Addr.add p1 3)) fun (v2 : Int) =>
  cnd (decide (v2 < (0 : Int))) (
  ret ((0 : Int), (231 : Int))) (
  bnd drawM fun _ =>
  bnd (drf x0) fun (p3 : Addr) =>
  bnd (ld .sl (Addr.add p3 2)) fun (v4 : Sl) =>
  bnd (drf x0) fun (p5 : Addr) =>
  bnd (ld (.int .i64) (Addr.add p5 3)) fun (v6 : Int) =>
  bnd (ix 7 v4 v6) fun (p7 : Addr) =>
  bnd (ld .sl (Addr.add p7 2)) fun (v8 : Sl) =>
  cnd ((v8.len : Int) == (0 : Int)) (
  ret ((0 : Int), (233 : Int))) (
  bnd (ld .sl (Addr.add p7 2)) fun (v9 : Sl) =>
  bnd (ix 1 v9 (IntKind.wrap .i64 ((v8.len : Int) - (1 : Int)))) fun (p10 : Addr) =>
  bnd (ld (.int .i64) p10) fun (v11 : Int) =>
  bnd (ld .sl (Addr.add p7 2)) fun (v12 : Sl) =>
  bnd (slc 1 v12 none (some (IntKind.wrap .i64 ((v8.len : Int) - (1 : Int)))) none) fun (v13 : Sl) =>
  bnd (wrs (Addr.add p7 2) 0 [.slice v13.a v13.len v13.cap]) fun _ =>
  ret (v11, (0 : Int))))
noncomputable def Af42_palaverref23_Stack_Pop : Ann := (.two .nil (.two (.two .nil (.two (.two .nil .nil) .nil)) (.two .nil (.two .nil (.two (.two .nil (.two (.two .nil .nil) .nil)) (.two .nil (.two .nil (.two .nil .nil))))))))
theorem Cf42_palaverref23_Stack_Pop_ok : Cf42_palaverref23_Stack_Pop.Ok := mkC_ok mixed tysOk zerosOk eqsOk trivial trivial
theorem Ef42_palaverref23_Stack_Pop (x : Option Addr) : evF Cf42_palaverref23_Stack_Pop Try.f42 47 .ptr (.tup (.pair (.int .i64) (.int .i64))) Af42_palaverref23_Stack_Pop x = f42_palaverref23_Stack_Pop x := by kernel_rfl
theorem Sf42_palaverref23_Stack_Pop : SoundF Try.prog 42 ⟨.ptr, (.tup (.pair (.int .i64) (.int .i64))), fun x => f42_palaverref23_Stack_Pop x⟩ :=
  soundF_of Cf42_palaverref23_Stack_Pop_ok Try.func42 (by kernel_rfl) (by kernel_rfl) Ef42_palaverref23_Stack_Pop
noncomputable def Cf43_palaverref23_Stack_Get : Ctx := mkC Try.prog tys zeros eqs [] []
/-- (*palaverpalaverref23.Stack).Get -/
noncomputable def f43_palaverref23_Stack_Get (x0 : Option Addr) (x1 : Int) : M (Int × Int) :=
  bnd (drf x0) fun (p1 : Addr) =>
  bnd (ld (.int .i64) (Addr.add p1 3)) fun (v2 : Int) =>
  cnd (decide (v2 < (0 : Int))) (
  ret ((0 : Int), (231 : Int))) (
  bnd drawM fun _ =>
  bnd (drf x0) fun (p3 : Addr) =>
  bnd (ld .sl (Addr.add p3 2)) fun (v4 : Sl) =>
  bnd (drf x0) fun (p5 : Addr) =>
  bnd (ld (.int .i64) (Addr.add p5 3)) fun (v6 : Int) =>
  bnd (ix 7 v4 v6) fun (p7 : Addr) =>
  bnd (
  cnd (decide (x1 < (0 : Int))) (
  ret true) (
  bnd (ld .sl (Addr.add p7 1)) fun (v8 : Sl) =>
  ret (decide (x1 ≥ (v8.len : Int))))) fun (b9 : Bool) =>
  cnd b9 (
  ret ((0 : Int), (232 : Int))) (
  bnd (ld .sl (Addr.add p7 1)) fun (v10 : Sl) =>
  bnd (ix 1 v10 x1) fun (p11 : Addr) =>
  bnd (ld (.int .i64) p11) fun (v12 : Int) =>
  ret (v12, (0 : Int))))
noncomputable def Af43_palaverref23_Stack_Get : Ann := (.two .nil (.two (.two .nil (.two (.two .nil .nil) .nil)) (.two .nil (.two (.two .nil (.two (.two .nil .nil) .nil)) (.two .nil .nil)))))
theorem Cf43_palaverref23_Stack_Get_ok : Cf43_palaverref23_Stack_Get.Ok := mkC_ok mixed tysOk zerosOk eqsOk trivial trivial
theorem Ef43_palaverref23_Stack_Get (x : (Option Addr × Int)) : evF Cf43_palaverref23_Stack_Get Try.f43 39 (.pair .ptr (.int .i64)) (.tup (.pair (.int .i64) (.int .i64))) Af43_palaverref23_Stack_Get x = f43_palaverref23_Stack_Get x.1 x.2 := by kernel_rfl
theorem Sf43_palaverref23_Stack_Get : SoundF Try.prog 43 ⟨(.pair .ptr (.int .i64)), (.tup (.pair (.int .i64) (.int .i64))), fun x => f43_palaverref23_Stack_Get x.1 x.2⟩ :=
  soundF_of Cf43_palaverref23_Stack_Get_ok Try.func43 (by kernel_rfl) (by kernel_rfl) Ef43_palaverref23_Stack_Get
noncomputable def Cf44_palaverref23_Stack_Set : Ctx := mkC Try.prog tys zeros eqs [(43, ⟨(.pair .ptr (.int .i64)), (.tup (.pair (.int .i64) (.int .i64))), fun x => f43_palaverref23_Stack_Get x.1 x.2⟩)] []
/-- (*palaverpalaverref23.Stack).Set -/
noncomputable def f44_palaverref23_Stack_Set (x0 : Option Addr) (x1 : Int) (x2 : Int) : M Int :=
  bnd (f43_palaverref23_Stack_Get x0 x1) fun (r1 : (Int × Int)) =>
  bnd (
  cnd (r1.2 == (0 : Int)) (
  bnd (
  bnd (ordM 44 3 (regionIn 3 Try.f44)) fun (o4 : List Nat) =>
  bnd (drf x0) fun (p5 : Addr) =>
  bnd (ld .sl (Addr.add p5 2)) fun (v6 : Sl) =>
  bnd (drf x0) fun (p7 : Addr) =>
  bnd (ld (.int .i64) (Addr.add p7 3)) fun (v8 : Int) =>
  bnd (ix 7 v6 v8) fun (p9 : Addr) =>
  bnd (ld .sl (Addr.add p9 1)) fun (v10 : Sl) =>
  bnd (ix 1 v10 x1) fun (p11 : Addr) =>
  bnd (wrs p11 0 [.int .i64 x2]) fun _ =>
  bnd (ret ()) fun _ =>
  ret ()) fun (s3 : Unit) =>
  ret ()) (
  ret ())) fun (s2 : Unit) =>
  ret r1.2
noncomputable def Af44_palaverref23_Stack_Set : Ann := (.two .nil (.two .nil (.two (.two .nil (.join [] [17, 18, 19, 20, 21, 22, 23, 24, 25, 26, 27, 28, 29, 30] false (.two (.join [] [17, 18, 19, 20, 21, 22, 23, 24, 25, 26, 27, 28, 29, 30] false (.ord 44 [(0, 32766), (1, 32764), (2, 32761), (4, 32755), (0, 32751), (16, 32719), (32, 32671), (64, 32575), (136, 32375), (256, 31999), (512, 31231), (0, 30719), (0, 28671), (8191, 21503), (16383, 4095)] (.o 0 (.o 1 (.o 2 (.o 3 (.o 4 (.o 5 (.o 6 (.o 7 (.o 8 (.o 9 (.o 10 (.o 11 (.o 12 (.o 13 (.o 14 .done))))))))))))))))) .nil))) (.two .nil .nil))))
theorem Cf44_palaverref23_Stack_Set_ok : Cf44_palaverref23_Stack_Set.Ok := mkC_ok mixed tysOk zerosOk eqsOk ⟨Sf43_palaverref23_Stack_Get, trivial⟩ trivial
theorem Ef44_palaverref23_Stack_Set (x : (Option Addr × (Int × Int))) : evF Cf44_palaverref23_Stack_Set Try.f44 32 (.pair .ptr (.pair (.int .i64) (.int .i64))) (.int .i64) Af44_palaverref23_Stack_Set x = f44_palaverref23_Stack_Set x.1 x.2.1 x.2.2 := by kernel_rfl
theorem Sf44_palaverref23_Stack_Set : SoundF Try.prog 44 ⟨(.pair .ptr (.pair (.int .i64) (.int .i64))), (.int .i64), fun x => f44_palaverref23_Stack_Set x.1 x.2.1 x.2.2⟩ :=
  soundF_of Cf44_palaverref23_Stack_Set_ok Try.func44 (by kernel_rfl) (by kernel_rfl) Ef44_palaverref23_Stack_Set
noncomputable def Cf73_palaverref23_Stack_sender : Ctx := mkC Try.prog tys zeros eqs [] []
/-- (*palaverpalaverref23.Stack).sender -/
noncomputable def f73_palaverref23_Stack_sender (x0 : Option Addr) (x1 : Int) : M Int :=
  bnd (drf x0) fun (p1 : Addr) =>
  bnd (ld .sl (Addr.add p1 2)) fun (v2 : Sl) =>
  bnd (ix 7 v2 x1) fun (p3 : Addr) =>
  bnd (ld (.int .i64) (Addr.add p3 4)) fun (v4 : Int) =>
  bnd (
  cnd (decide (v4 ≥ (0 : Int))) (
  bnd (drf x0) fun (p5 : Addr) =>
  bnd (ld .sl (Addr.add p5 2)) fun (v6 : Sl) =>
  bnd (ix 7 v6 v4) fun (p7 : Addr) =>
  bnd (ld .bool (Addr.add p7 5)) fun (v8 : Bool) =>
  ret (!v8)) (
  ret false)) fun (b9 : Bool) =>
  cnd b9 (
  ret (-1 : Int)) (
  ret v4)
noncomputable def Af73_palaverref23_Stack_sender : Ann := (.two .nil (.two .nil (.two (.two .nil (.two (.two .nil .nil) .nil)) (.two .nil .nil))))
theorem Cf73_palaverref23_Stack_sender_ok : Cf73_palaverref23_Stack_sender.Ok := mkC_ok mixed tysOk zerosOk eqsOk trivial trivial
theorem Ef73_palaverref23_Stack_sender (x : (Option Addr × Int)) : evF Cf73_palaverref23_Stack_sender Try.f73 28 (.pair .ptr (.int .i64)) (.int .i64) Af73_palaverref23_Stack_sender x = f73_palaverref23_Stack_sender x.1 x.2 := by kernel_rfl
theorem Sf73_palaverref23_Stack_sender : SoundF Try.prog 73 ⟨(.pair .ptr (.int .i64)), (.int .i64), fun x => f73_palaverref23_Stack_sender x.1 x.2⟩ :=
  soundF_of Cf73_palaverref23_Stack_sender_ok Try.func73 (by kernel_rfl) (by kernel_rfl) Ef73_palaverref23_Stack_sender
noncomputable def Cf74_palaverref23_Stack_ends : Ctx := mkC Try.prog tys zeros eqs [] []
/-- (*palaverpalaverref23.Stack).ends -/
noncomputable def f74_palaverref23_Stack_ends (x0 : Option Addr) (x1 : Int) : M Unit :=
  bnd (drf x0) fun (p1 : Addr) =>
  bnd (ld .sl (Addr.add p1 2)) fun (v2 : Sl) =>
  bnd (ix 7 v2 x1) fun (p3 : Addr) =>
  bnd (wrs (Addr.add p3 5) 0 [.bool false]) fun _ =>
  bnd (drf x0) fun (p4 : Addr) =>
  bnd (ld (.int .i64) (Addr.add p4 5)) fun (v5 : Int) =>
  bnd (drf x0) fun (p6 : Addr) =>
  bnd (wrs (Addr.add p6 5) 0 [.int .i64 (IntKind.wrap .i64 (v5 - (1 : Int)))]) fun _ =>
  ret ()
noncomputable def Af74_palaverref23_Stack_ends : Ann := (.two .nil .nil)
theorem Cf74_palaverref23_Stack_ends_ok : Cf74_palaverref23_Stack_ends.Ok := mkC_ok mixed tysOk zerosOk eqsOk trivial trivial
theorem Ef74_palaverref23_Stack_ends (x : (Option Addr × Int)) : evF Cf74_palaverref23_Stack_ends Try.f74 18 (.pair .ptr (.int .i64)) (.tup .unit) Af74_palaverref23_Stack_ends x = f74_palaverref23_Stack_ends x.1 x.2 := by kernel_rfl
theorem Sf74_palaverref23_Stack_ends : SoundF Try.prog 74 ⟨(.pair .ptr (.int .i64)), (.tup .unit), fun x => f74_palaverref23_Stack_ends x.1 x.2⟩ :=
  soundF_of Cf74_palaverref23_Stack_ends_ok Try.func74 (by kernel_rfl) (by kernel_rfl) Ef74_palaverref23_Stack_ends
noncomputable def Cf75_palaverref23_Stack_back : Ctx := mkC Try.prog tys zeros eqs [(41, ⟨(.pair .ptr (.int .i64)), (.int .i64), fun x => f41_palaverref23_Stack_Push x.1 x.2⟩)] []
/-- (*palaverpalaverref23.Stack).back -/
noncomputable def f75_palaverref23_Stack_back (x0 : Option Addr) (x1 : Int) (x2 : Int) : M Int :=
  bnd (drf x0) fun (p1 : Addr) =>
  bnd (wrs (Addr.add p1 3) 0 [.int .i64 x1]) fun _ =>
  bnd drawM fun _ =>
  bnd (
  cnd (decide (x1 < (0 : Int))) (
  ret true) (
  bnd (drf x0) fun (p2 : Addr) =>
  bnd (ld .sl (Addr.add p2 2)) fun (v3 : Sl) =>
  bnd (ix 7 v3 x1) fun (p4 : Addr) =>
  bnd (ld .sl (Addr.add p4 2)) fun (v5 : Sl) =>
  bnd (drf x0) fun (p6 : Addr) =>
  bnd (ld .sl (Addr.add p6 2)) fun (v7 : Sl) =>
  bnd (ix 7 v7 x1) fun (p8 : Addr) =>
  bnd (ld (.int .i64) (Addr.add p8 3)) fun (v9 : Int) =>
  ret (decide ((v5.len : Int) ≥ v9)))) fun (b10 : Bool) =>
  cnd b10 (
  bnd (drf x0) fun (p11 : Addr) =>
  bnd (wrs (Addr.add p11 3) 0 [.int .i64 (-1 : Int)]) fun _ =>
  ret (235 : Int)) (
  bnd (f41_palaverref23_Stack_Push x0 x2) fun (r12 : Int) =>
  ret r12)
noncomputable def Af75_palaverref23_Stack_back : Ann := (.two .nil (.two .nil (.two (.two .nil (.two (.two .nil (.two .nil .nil)) .nil)) (.two .nil .nil))))
theorem Cf75_palaverref23_Stack_back_ok : Cf75_palaverref23_Stack_back.Ok := mkC_ok mixed tysOk zerosOk eqsOk ⟨Sf41_palaverref23_Stack_Push, trivial⟩ trivial
theorem Ef75_palaverref23_Stack_back (x : (Option Addr × (Int × Int))) : evF Cf75_palaverref23_Stack_back Try.f75 39 (.pair .ptr (.pair (.int .i64) (.int .i64))) (.int .i64) Af75_palaverref23_Stack_back x = f75_palaverref23_Stack_back x.1 x.2.1 x.2.2 := by kernel_rfl
theorem Sf75_palaverref23_Stack_back : SoundF Try.prog 75 ⟨(.pair .ptr (.pair (.int .i64) (.int .i64))), (.int .i64), fun x => f75_palaverref23_Stack_back x.1 x.2.1 x.2.2⟩ :=
  soundF_of Cf75_palaverref23_Stack_back_ok Try.func75 (by kernel_rfl) (by kernel_rfl) Ef75_palaverref23_Stack_back
noncomputable def Cf45_palaverref23_Stack_Return : Ctx := mkC Try.prog tys zeros eqs [(73, ⟨(.pair .ptr (.int .i64)), (.int .i64), fun x => f73_palaverref23_Stack_sender x.1 x.2⟩), (74, ⟨(.pair .ptr (.int .i64)), (.tup .unit), fun x => f74_palaverref23_Stack_ends x.1 x.2⟩), (75, ⟨(.pair .ptr (.pair (.int .i64) (.int .i64))), (.int .i64), fun x => f75_palaverref23_Stack_back x.1 x.2.1 x.2.2⟩)] []
/-- (*palaverpalaverref23.Stack).Return -/
noncomputable def f45_palaverref23_Stack_Return (x0 : Option Addr) (x1 : Int) : M Int :=
  bnd (drf x0) fun (p1 : Addr) =>
  bnd (ld (.int .i64) (Addr.add p1 3)) fun (v2 : Int) =>
  cnd (decide (v2 < (0 : Int))) (
  ret (231 : Int)) (
  bnd (drf x0) fun (p3 : Addr) =>
  bnd (ld (.int .i64) (Addr.add p3 3)) fun (v4 : Int) =>
  bnd (f73_palaverref23_Stack_sender x0 v4) fun (r5 : Int) =>
  bnd (drf x0) fun (p6 : Addr) =>
  bnd (ld (.int .i64) (Addr.add p6 3)) fun (v7 : Int) =>
  bnd (f74_palaverref23_Stack_ends x0 v7) fun (r8 : Unit) =>
  bnd (f75_palaverref23_Stack_back x0 r5 x1) fun (r9 : Int) =>
  ret r9)
noncomputable def Af45_palaverref23_Stack_Return : Ann := (.two .nil (.two (.two .nil (.two (.two .nil .nil) .nil)) (.two .nil (.two .nil (.two .nil .nil)))))
theorem Cf45_palaverref23_Stack_Return_ok : Cf45_palaverref23_Stack_Return.Ok := mkC_ok mixed tysOk zerosOk eqsOk ⟨Sf73_palaverref23_Stack_sender, Sf74_palaverref23_Stack_ends, Sf75_palaverref23_Stack_back, trivial⟩ trivial
theorem Ef45_palaverref23_Stack_Return (x : (Option Addr × Int)) : evF Cf45_palaverref23_Stack_Return Try.f45 27 (.pair .ptr (.int .i64)) (.int .i64) Af45_palaverref23_Stack_Return x = f45_palaverref23_Stack_Return x.1 x.2 := by kernel_rfl
theorem Sf45_palaverref23_Stack_Return : SoundF Try.prog 45 ⟨(.pair .ptr (.int .i64)), (.int .i64), fun x => f45_palaverref23_Stack_Return x.1 x.2⟩ :=
  soundF_of Cf45_palaverref23_Stack_Return_ok Try.func45 (by kernel_rfl) (by kernel_rfl) Ef45_palaverref23_Stack_Return
noncomputable def Cf76_palaverref23_Stack_name : Ctx := mkC Try.prog tys zeros eqs [] []
/-- (*palaverpalaverref23.Stack).name -/
noncomputable def f76_palaverref23_Stack_name (x0 : Option Addr) (x1 : Int) : M Int :=
  cnd (decide (x1 < (0 : Int))) (
  ret (0 : Int)) (
  bnd (drf x0) fun (p1 : Addr) =>
  bnd (ld .sl (Addr.add p1 2)) fun (v2 : Sl) =>
  bnd (ix 7 v2 x1) fun (p3 : Addr) =>
  bnd (ld (.int .i64) (Addr.add p3 6)) fun (v4 : Int) =>
  bnd (
  cnd (v4 == (0 : Int)) (
  bnd (drf x0) fun (p6 : Addr) =>
  bnd (ld .sl (Addr.add p6 4)) fun (v7 : Sl) =>
  bnd (runV Try.prog .sl (Instr.buildSlice 84 1 #[(0, .int .i64 x1)])) fun (v8 : Sl) =>
  bnd (runV Try.prog .sl (Builtin.append_ #[84, 84] 84 #[.slice v7.a v7.len v7.cap, .slice v8.a v8.len v8.cap])) fun (v9 : Sl) =>
  bnd (drf x0) fun (p10 : Addr) =>
  bnd (wrs (Addr.add p10 4) 0 [.slice v9.a v9.len v9.cap]) fun _ =>
  bnd (
  bnd (ordM 76 5 (regionIn 5 Try.f76)) fun (o12 : List Nat) =>
  bnd (drf x0) fun (p13 : Addr) =>
  bnd (ld .sl (Addr.add p13 2)) fun (v14 : Sl) =>
  bnd (drf x0) fun (p15 : Addr) =>
  bnd (ld .sl (Addr.add p15 4)) fun (v16 : Sl) =>
  bnd (ix 7 v14 x1) fun (p17 : Addr) =>
  bnd (wrs (Addr.add p17 6) 0 [.int .i64 (v16.len : Int)]) fun _ =>
  bnd (ret ()) fun _ =>
  ret ()) fun (s11 : Unit) =>
  ret ()) (
  ret ())) fun (s5 : Unit) =>
  bnd (drf x0) fun (p18 : Addr) =>
  bnd (ld .sl (Addr.add p18 2)) fun (v19 : Sl) =>
  bnd (ix 7 v19 x1) fun (p20 : Addr) =>
  bnd (ld (.int .i64) (Addr.add p20 6)) fun (v21 : Int) =>
  ret v21)
noncomputable def Af76_palaverref23_Stack_name : Ann := (.two .nil (.two (.two .nil (.two (.two .nil .nil) .nil)) (.two (.two .nil (.join [] [16, 17, 18, 19, 20, 21, 22, 23, 24, 25, 26, 27, 28, 29, 30, 31, 32, 33, 34, 35, 36, 37] false (.two (.two .nil (.join [] [26, 27, 28, 29, 30, 31, 32, 33, 34, 35, 36, 37] false (.ord 76 [(0, 8190), (1, 8188), (2, 8185), (4, 8179), (0, 8175), (0, 8159), (32, 8095), (64, 7999), (128, 7807), (256, 7423), (1023, 7143), (2047, 5119), (3071, 1535)] (.o 0 (.o 1 (.o 2 (.o 3 (.o 4 (.o 5 (.o 6 (.o 7 (.o 8 (.o 9 (.o 10 (.o 11 (.o 12 .done)))))))))))))))) .nil))) (.two .nil .nil))))
theorem Cf76_palaverref23_Stack_name_ok : Cf76_palaverref23_Stack_name.Ok := mkC_ok mixed tysOk zerosOk eqsOk trivial trivial
theorem Ef76_palaverref23_Stack_name (x : (Option Addr × Int)) : evF Cf76_palaverref23_Stack_name Try.f76 46 (.pair .ptr (.int .i64)) (.int .i64) Af76_palaverref23_Stack_name x = f76_palaverref23_Stack_name x.1 x.2 := by kernel_rfl
theorem Sf76_palaverref23_Stack_name : SoundF Try.prog 76 ⟨(.pair .ptr (.int .i64)), (.int .i64), fun x => f76_palaverref23_Stack_name x.1 x.2⟩ :=
  soundF_of Cf76_palaverref23_Stack_name_ok Try.func76 (by kernel_rfl) (by kernel_rfl) Ef76_palaverref23_Stack_name
noncomputable def Cf46_palaverref23_Stack_This : Ctx := mkC Try.prog tys zeros eqs [(76, ⟨(.pair .ptr (.int .i64)), (.int .i64), fun x => f76_palaverref23_Stack_name x.1 x.2⟩)] []
/-- (*palaverpalaverref23.Stack).This -/
noncomputable def f46_palaverref23_Stack_This (x0 : Option Addr) : M Int :=
  bnd (drf x0) fun (p1 : Addr) =>
  bnd (ld (.int .i64) (Addr.add p1 3)) fun (v2 : Int) =>
  bnd (f76_palaverref23_Stack_name x0 v2) fun (r3 : Int) =>
  ret r3
noncomputable def Af46_palaverref23_Stack_This : Ann := (.two .nil (.two .nil .nil))
theorem Cf46_palaverref23_Stack_This_ok : Cf46_palaverref23_Stack_This.Ok := mkC_ok mixed tysOk zerosOk eqsOk ⟨Sf76_palaverref23_Stack_name, trivial⟩ trivial
theorem Ef46_palaverref23_Stack_This (x : Option Addr) : evF Cf46_palaverref23_Stack_This Try.f46 9 .ptr (.int .i64) Af46_palaverref23_Stack_This x = f46_palaverref23_Stack_This x := by kernel_rfl
theorem Sf46_palaverref23_Stack_This : SoundF Try.prog 46 ⟨.ptr, (.int .i64), fun x => f46_palaverref23_Stack_This x⟩ :=
  soundF_of Cf46_palaverref23_Stack_This_ok Try.func46 (by kernel_rfl) (by kernel_rfl) Ef46_palaverref23_Stack_This
noncomputable def Cf77_palaverref23_Stack_of : Ctx := mkC Try.prog tys zeros eqs [] []
/-- (*palaverpalaverref23.Stack).of -/
noncomputable def f77_palaverref23_Stack_of (x0 : Option Addr) (x1 : Int) : M (Int × Int) :=
  bnd (
  cnd (decide (x1 < (1 : Int))) (
  ret true) (
  bnd (drf x0) fun (p1 : Addr) =>
  bnd (ld .sl (Addr.add p1 4)) fun (v2 : Sl) =>
  ret (decide (x1 > (v2.len : Int))))) fun (b3 : Bool) =>
  cnd b3 (
  ret ((-1 : Int), (234 : Int))) (
  bnd (drf x0) fun (p4 : Addr) =>
  bnd (ld .sl (Addr.add p4 4)) fun (v5 : Sl) =>
  bnd (ix 1 v5 (IntKind.wrap .i64 (x1 - (1 : Int)))) fun (p6 : Addr) =>
  bnd (ld (.int .i64) p6) fun (v7 : Int) =>
  bnd (drf x0) fun (p8 : Addr) =>
  bnd (ld .sl (Addr.add p8 2)) fun (v9 : Sl) =>
  bnd (ix 7 v9 v7) fun (p10 : Addr) =>
  bnd (ld .bool (Addr.add p10 5)) fun (v11 : Bool) =>
  cnd (!v11) (
  ret ((-1 : Int), (235 : Int))) (
  ret (v7, (0 : Int))))
noncomputable def Af77_palaverref23_Stack_of : Ann := (.two .nil (.two (.two .nil (.two (.two .nil .nil) .nil)) (.two .nil (.two (.two .nil (.two (.two .nil .nil) .nil)) (.two .nil .nil)))))
theorem Cf77_palaverref23_Stack_of_ok : Cf77_palaverref23_Stack_of.Ok := mkC_ok mixed tysOk zerosOk eqsOk trivial trivial
theorem Ef77_palaverref23_Stack_of (x : (Option Addr × Int)) : evF Cf77_palaverref23_Stack_of Try.f77 36 (.pair .ptr (.int .i64)) (.tup (.pair (.int .i64) (.int .i64))) Af77_palaverref23_Stack_of x = f77_palaverref23_Stack_of x.1 x.2 := by kernel_rfl
theorem Sf77_palaverref23_Stack_of : SoundF Try.prog 77 ⟨(.pair .ptr (.int .i64)), (.tup (.pair (.int .i64) (.int .i64))), fun x => f77_palaverref23_Stack_of x.1 x.2⟩ :=
  soundF_of Cf77_palaverref23_Stack_of_ok Try.func77 (by kernel_rfl) (by kernel_rfl) Ef77_palaverref23_Stack_of
noncomputable def Cf47_palaverref23_Stack_Sender : Ctx := mkC Try.prog tys zeros eqs [(73, ⟨(.pair .ptr (.int .i64)), (.int .i64), fun x => f73_palaverref23_Stack_sender x.1 x.2⟩), (76, ⟨(.pair .ptr (.int .i64)), (.int .i64), fun x => f76_palaverref23_Stack_name x.1 x.2⟩), (77, ⟨(.pair .ptr (.int .i64)), (.tup (.pair (.int .i64) (.int .i64))), fun x => f77_palaverref23_Stack_of x.1 x.2⟩)] []
/-- (*palaverpalaverref23.Stack).Sender -/
noncomputable def f47_palaverref23_Stack_Sender (x0 : Option Addr) (x1 : Int) : M (Int × Int) :=
  bnd (f77_palaverref23_Stack_of x0 x1) fun (r1 : (Int × Int)) =>
  cnd (r1.2 != (0 : Int)) (
  ret ((0 : Int), r1.2)) (
  bnd (f73_palaverref23_Stack_sender x0 r1.1) fun (r2 : Int) =>
  bnd (f76_palaverref23_Stack_name x0 r2) fun (r3 : Int) =>
  ret (r3, (0 : Int)))
noncomputable def Af47_palaverref23_Stack_Sender : Ann := (.two .nil (.two .nil (.two (.two .nil (.two (.two .nil .nil) .nil)) (.two .nil (.two .nil .nil)))))
theorem Cf47_palaverref23_Stack_Sender_ok : Cf47_palaverref23_Stack_Sender.Ok := mkC_ok mixed tysOk zerosOk eqsOk ⟨Sf73_palaverref23_Stack_sender, Sf76_palaverref23_Stack_name, Sf77_palaverref23_Stack_of, trivial⟩ trivial
theorem Ef47_palaverref23_Stack_Sender (x : (Option Addr × Int)) : evF Cf47_palaverref23_Stack_Sender Try.f47 24 (.pair .ptr (.int .i64)) (.tup (.pair (.int .i64) (.int .i64))) Af47_palaverref23_Stack_Sender x = f47_palaverref23_Stack_Sender x.1 x.2 := by kernel_rfl
theorem Sf47_palaverref23_Stack_Sender : SoundF Try.prog 47 ⟨(.pair .ptr (.int .i64)), (.tup (.pair (.int .i64) (.int .i64))), fun x => f47_palaverref23_Stack_Sender x.1 x.2⟩ :=
  soundF_of Cf47_palaverref23_Stack_Sender_ok Try.func47 (by kernel_rfl) (by kernel_rfl) Ef47_palaverref23_Stack_Sender
noncomputable def Cf48_palaverref23_Stack_Method : Ctx := mkC Try.prog tys zeros eqs [(77, ⟨(.pair .ptr (.int .i64)), (.tup (.pair (.int .i64) (.int .i64))), fun x => f77_palaverref23_Stack_of x.1 x.2⟩)] []
/-- (*palaverpalaverref23.Stack).Method -/
noncomputable def f48_palaverref23_Stack_Method (x0 : Option Addr) (x1 : Int) : M (Int × Int) :=
  bnd (f77_palaverref23_Stack_of x0 x1) fun (r1 : (Int × Int)) =>
  cnd (r1.2 != (0 : Int)) (
  ret ((0 : Int), r1.2)) (
  bnd (drf x0) fun (p2 : Addr) =>
  bnd (ld .sl (Addr.add p2 2)) fun (v3 : Sl) =>
  bnd (ix 7 v3 r1.1) fun (p4 : Addr) =>
  bnd (ld (.int .i64) (Addr.add p4 0)) fun (v5 : Int) =>
  ret (v5, (0 : Int)))
noncomputable def Af48_palaverref23_Stack_Method : Ann := (.two .nil (.two .nil (.two (.two .nil (.two (.two .nil .nil) .nil)) (.two .nil .nil))))
theorem Cf48_palaverref23_Stack_Method_ok : Cf48_palaverref23_Stack_Method.Ok := mkC_ok mixed tysOk zerosOk eqsOk ⟨Sf77_palaverref23_Stack_of, trivial⟩ trivial
theorem Ef48_palaverref23_Stack_Method (x : (Option Addr × Int)) : evF Cf48_palaverref23_Stack_Method Try.f48 25 (.pair .ptr (.int .i64)) (.tup (.pair (.int .i64) (.int .i64))) Af48_palaverref23_Stack_Method x = f48_palaverref23_Stack_Method x.1 x.2 := by kernel_rfl
theorem Sf48_palaverref23_Stack_Method : SoundF Try.prog 48 ⟨(.pair .ptr (.int .i64)), (.tup (.pair (.int .i64) (.int .i64))), fun x => f48_palaverref23_Stack_Method x.1 x.2⟩ :=
  soundF_of Cf48_palaverref23_Stack_Method_ok Try.func48 (by kernel_rfl) (by kernel_rfl) Ef48_palaverref23_Stack_Method
noncomputable def Cf78_frames_Stack_slotOf : Ctx := mkC Try.prog tys zeros eqs [(62, ⟨(.pair .ptr (.int .i64)), (.tup (.pair .ptr (.int .i64))), fun x => f62_frames_Stack_of x.1 x.2⟩), (63, ⟨.ptr, (.tup (.pair .sl .sl)), fun x => f63_frames_context_parts x⟩)] []
/-- (*palaverframes.Stack).slotOf -/
noncomputable def f78_frames_Stack_slotOf (x0 : Option Addr) (x1 : Int) (x2 : Int) : M (Option Addr × Int) :=
  bnd (f62_frames_Stack_of x0 x1) fun (r1 : (Option Addr × Int)) =>
  cnd (r1.2 != (0 : Int)) (
  ret (none, r1.2)) (
  bnd (f63_frames_context_parts r1.1) fun (r2 : (Sl × Sl)) =>
  cnd (cond (decide (x2 < (0 : Int))) true (decide (x2 ≥ (r2.1.len : Int)))) (
  ret (none, (232 : Int))) (
  bnd (ix 1 r2.1 x2) fun (p3 : Addr) =>
  ret ((some p3), (0 : Int))))
noncomputable def Af78_frames_Stack_slotOf : Ann := (.two .nil (.two .nil (.two (.two .nil (.two (.two .nil .nil) .nil)) (.two .nil (.two (.two .nil (.two (.two .nil .nil) .nil)) (.two .nil .nil))))))
theorem Cf78_frames_Stack_slotOf_ok : Cf78_frames_Stack_slotOf.Ok := mkC_ok mixed tysOk zerosOk eqsOk ⟨Sf62_frames_Stack_of, Sf63_frames_context_parts, trivial⟩ trivial
theorem Ef78_frames_Stack_slotOf (x : (Option Addr × (Int × Int))) : evF Cf78_frames_Stack_slotOf Try.f78 37 (.pair .ptr (.pair (.int .i64) (.int .i64))) (.tup (.pair .ptr (.int .i64))) Af78_frames_Stack_slotOf x = f78_frames_Stack_slotOf x.1 x.2.1 x.2.2 := by kernel_rfl
theorem Sf78_frames_Stack_slotOf : SoundF Try.prog 78 ⟨(.pair .ptr (.pair (.int .i64) (.int .i64))), (.tup (.pair .ptr (.int .i64))), fun x => f78_frames_Stack_slotOf x.1 x.2.1 x.2.2⟩ :=
  soundF_of Cf78_frames_Stack_slotOf_ok Try.func78 (by kernel_rfl) (by kernel_rfl) Ef78_frames_Stack_slotOf
noncomputable def Cf49_frames_Stack_Slot : Ctx := mkC Try.prog tys zeros eqs [(78, ⟨(.pair .ptr (.pair (.int .i64) (.int .i64))), (.tup (.pair .ptr (.int .i64))), fun x => f78_frames_Stack_slotOf x.1 x.2.1 x.2.2⟩)] []
/-- (*palaverframes.Stack).Slot -/
noncomputable def f49_frames_Stack_Slot (x0 : Option Addr) (x1 : Int) (x2 : Int) : M (Int × Int) :=
  bnd (f78_frames_Stack_slotOf x0 x1 x2) fun (r1 : (Option Addr × Int)) =>
  cnd (r1.2 != (0 : Int)) (
  ret ((0 : Int), r1.2)) (
  bnd (drf r1.1) fun (p2 : Addr) =>
  bnd (ld (.int .i64) p2) fun (v3 : Int) =>
  ret (v3, (0 : Int)))
noncomputable def Af49_frames_Stack_Slot : Ann := (.two .nil (.two .nil (.two (.two .nil (.two (.two .nil .nil) .nil)) (.two .nil .nil))))
theorem Cf49_frames_Stack_Slot_ok : Cf49_frames_Stack_Slot.Ok := mkC_ok mixed tysOk zerosOk eqsOk ⟨Sf78_frames_Stack_slotOf, trivial⟩ trivial
theorem Ef49_frames_Stack_Slot (x : (Option Addr × (Int × Int))) : evF Cf49_frames_Stack_Slot Try.f49 23 (.pair .ptr (.pair (.int .i64) (.int .i64))) (.tup (.pair (.int .i64) (.int .i64))) Af49_frames_Stack_Slot x = f49_frames_Stack_Slot x.1 x.2.1 x.2.2 := by kernel_rfl
theorem Sf49_frames_Stack_Slot : SoundF Try.prog 49 ⟨(.pair .ptr (.pair (.int .i64) (.int .i64))), (.tup (.pair (.int .i64) (.int .i64))), fun x => f49_frames_Stack_Slot x.1 x.2.1 x.2.2⟩ :=
  soundF_of Cf49_frames_Stack_Slot_ok Try.func49 (by kernel_rfl) (by kernel_rfl) Ef49_frames_Stack_Slot
noncomputable def Cf50_palaverref23_Stack_Slot : Ctx := mkC Try.prog tys zeros eqs [(77, ⟨(.pair .ptr (.int .i64)), (.tup (.pair (.int .i64) (.int .i64))), fun x => f77_palaverref23_Stack_of x.1 x.2⟩)] []
/-- (*palaverpalaverref23.Stack).Slot -/
noncomputable def f50_palaverref23_Stack_Slot (x0 : Option Addr) (x1 : Int) (x2 : Int) : M (Int × Int) :=
  bnd (f77_palaverref23_Stack_of x0 x1) fun (r1 : (Int × Int)) =>
  cnd (r1.2 != (0 : Int)) (
  ret ((0 : Int), r1.2)) (
  bnd (
  cnd (decide (x2 < (0 : Int))) (
  ret true) (
  bnd (drf x0) fun (p2 : Addr) =>
  bnd (ld .sl (Addr.add p2 2)) fun (v3 : Sl) =>
  bnd (ix 7 v3 r1.1) fun (p4 : Addr) =>
  bnd (ld .sl (Addr.add p4 1)) fun (v5 : Sl) =>
  ret (decide (x2 ≥ (v5.len : Int))))) fun (b6 : Bool) =>
  cnd b6 (
  ret ((0 : Int), (232 : Int))) (
  bnd (drf x0) fun (p7 : Addr) =>
  bnd (ld .sl (Addr.add p7 2)) fun (v8 : Sl) =>
  bnd (ix 7 v8 r1.1) fun (p9 : Addr) =>
  bnd (ld .sl (Addr.add p9 1)) fun (v10 : Sl) =>
  bnd (ix 1 v10 x2) fun (p11 : Addr) =>
  bnd (ld (.int .i64) p11) fun (v12 : Int) =>
  ret (v12, (0 : Int))))
noncomputable def Af50_palaverref23_Stack_Slot : Ann := (.two .nil (.two .nil (.two (.two .nil (.two (.two .nil .nil) .nil)) (.two (.two .nil (.two (.two .nil .nil) .nil)) (.two .nil .nil)))))
theorem Cf50_palaverref23_Stack_Slot_ok : Cf50_palaverref23_Stack_Slot.Ok := mkC_ok mixed tysOk zerosOk eqsOk ⟨Sf77_palaverref23_Stack_of, trivial⟩ trivial
theorem Ef50_palaverref23_Stack_Slot (x : (Option Addr × (Int × Int))) : evF Cf50_palaverref23_Stack_Slot Try.f50 45 (.pair .ptr (.pair (.int .i64) (.int .i64))) (.tup (.pair (.int .i64) (.int .i64))) Af50_palaverref23_Stack_Slot x = f50_palaverref23_Stack_Slot x.1 x.2.1 x.2.2 := by kernel_rfl
theorem Sf50_palaverref23_Stack_Slot : SoundF Try.prog 50 ⟨(.pair .ptr (.pair (.int .i64) (.int .i64))), (.tup (.pair (.int .i64) (.int .i64))), fun x => f50_palaverref23_Stack_Slot x.1 x.2.1 x.2.2⟩ :=
  soundF_of Cf50_palaverref23_Stack_Slot_ok Try.func50 (by kernel_rfl) (by kernel_rfl) Ef50_palaverref23_Stack_Slot
noncomputable def Cf51_frames_Stack_SetSlot : Ctx := mkC Try.prog tys zeros eqs [(78, ⟨(.pair .ptr (.pair (.int .i64) (.int .i64))), (.tup (.pair .ptr (.int .i64))), fun x => f78_frames_Stack_slotOf x.1 x.2.1 x.2.2⟩)] []
/-- (*palaverframes.Stack).SetSlot -/
noncomputable def f51_frames_Stack_SetSlot (x0 : Option Addr) (x1 : Int) (x2 : Int) (x3 : Int) : M Int :=
  bnd (f78_frames_Stack_slotOf x0 x1 x2) fun (r1 : (Option Addr × Int)) =>
  bnd (
  cnd (r1.2 == (0 : Int)) (
  bnd (drf r1.1) fun (p3 : Addr) =>
  bnd (wrs p3 0 [.int .i64 x3]) fun _ =>
  ret ()) (
  ret ())) fun (s2 : Unit) =>
  ret r1.2
noncomputable def Af51_frames_Stack_SetSlot : Ann := (.two .nil (.two .nil (.two (.two .nil (.join [] [20, 21, 22] false (.two .nil .nil))) (.two .nil .nil))))
theorem Cf51_frames_Stack_SetSlot_ok : Cf51_frames_Stack_SetSlot.Ok := mkC_ok mixed tysOk zerosOk eqsOk ⟨Sf78_frames_Stack_slotOf, trivial⟩ trivial
theorem Ef51_frames_Stack_SetSlot (x : (Option Addr × (Int × (Int × Int)))) : evF Cf51_frames_Stack_SetSlot Try.f51 24 (.pair .ptr (.pair (.int .i64) (.pair (.int .i64) (.int .i64)))) (.int .i64) Af51_frames_Stack_SetSlot x = f51_frames_Stack_SetSlot x.1 x.2.1 x.2.2.1 x.2.2.2 := by kernel_rfl
theorem Sf51_frames_Stack_SetSlot : SoundF Try.prog 51 ⟨(.pair .ptr (.pair (.int .i64) (.pair (.int .i64) (.int .i64)))), (.int .i64), fun x => f51_frames_Stack_SetSlot x.1 x.2.1 x.2.2.1 x.2.2.2⟩ :=
  soundF_of Cf51_frames_Stack_SetSlot_ok Try.func51 (by kernel_rfl) (by kernel_rfl) Ef51_frames_Stack_SetSlot
noncomputable def Cf52_palaverref23_Stack_SetSlot : Ctx := mkC Try.prog tys zeros eqs [(50, ⟨(.pair .ptr (.pair (.int .i64) (.int .i64))), (.tup (.pair (.int .i64) (.int .i64))), fun x => f50_palaverref23_Stack_Slot x.1 x.2.1 x.2.2⟩), (77, ⟨(.pair .ptr (.int .i64)), (.tup (.pair (.int .i64) (.int .i64))), fun x => f77_palaverref23_Stack_of x.1 x.2⟩)] []
/-- (*palaverpalaverref23.Stack).SetSlot -/
noncomputable def f52_palaverref23_Stack_SetSlot (x0 : Option Addr) (x1 : Int) (x2 : Int) (x3 : Int) : M Int :=
  bnd (f50_palaverref23_Stack_Slot x0 x1 x2) fun (r1 : (Int × Int)) =>
  bnd (
  cnd (r1.2 == (0 : Int)) (
  bnd (f77_palaverref23_Stack_of x0 x1) fun (r3 : (Int × Int)) =>
  bnd (drf x0) fun (p4 : Addr) =>
  bnd (ld .sl (Addr.add p4 2)) fun (v5 : Sl) =>
  bnd (ix 7 v5 r3.1) fun (p6 : Addr) =>
  bnd (ld .sl (Addr.add p6 1)) fun (v7 : Sl) =>
  bnd (ix 1 v7 x2) fun (p8 : Addr) =>
  bnd (wrs p8 0 [.int .i64 x3]) fun _ =>
  ret ()) (
  ret ())) fun (s2 : Unit) =>
  ret r1.2
noncomputable def Af52_palaverref23_Stack_SetSlot : Ann := (.two .nil (.two .nil (.two (.two .nil (.join [] [11, 12, 22, 23, 24, 25, 26, 27, 28, 29, 30, 31, 32, 33, 34, 35, 36, 37, 38] false (.two (.two .nil .nil) .nil))) (.two .nil .nil))))
theorem Cf52_palaverref23_Stack_SetSlot_ok : Cf52_palaverref23_Stack_SetSlot.Ok := mkC_ok mixed tysOk zerosOk eqsOk ⟨Sf50_palaverref23_Stack_Slot, Sf77_palaverref23_Stack_of, trivial⟩ trivial
theorem Ef52_palaverref23_Stack_SetSlot (x : (Option Addr × (Int × (Int × Int)))) : evF Cf52_palaverref23_Stack_SetSlot Try.f52 40 (.pair .ptr (.pair (.int .i64) (.pair (.int .i64) (.int .i64)))) (.int .i64) Af52_palaverref23_Stack_SetSlot x = f52_palaverref23_Stack_SetSlot x.1 x.2.1 x.2.2.1 x.2.2.2 := by kernel_rfl
theorem Sf52_palaverref23_Stack_SetSlot : SoundF Try.prog 52 ⟨(.pair .ptr (.pair (.int .i64) (.pair (.int .i64) (.int .i64)))), (.int .i64), fun x => f52_palaverref23_Stack_SetSlot x.1 x.2.1 x.2.2.1 x.2.2.2⟩ :=
  soundF_of Cf52_palaverref23_Stack_SetSlot_ok Try.func52 (by kernel_rfl) (by kernel_rfl) Ef52_palaverref23_Stack_SetSlot
noncomputable def Cf53_palaverref23_Stack_Lies : Ctx := mkC Try.prog tys zeros eqs [(77, ⟨(.pair .ptr (.int .i64)), (.tup (.pair (.int .i64) (.int .i64))), fun x => f77_palaverref23_Stack_of x.1 x.2⟩)] []
/-- (*palaverpalaverref23.Stack).Lies -/
noncomputable def f53_palaverref23_Stack_Lies (x0 : Option Addr) (x1 : Int) : M (Sl × Int) :=
  bnd (f77_palaverref23_Stack_of x0 x1) fun (r1 : (Int × Int)) =>
  cnd (r1.2 != (0 : Int)) (
  ret ((Sl.mk none 0 0), r1.2)) (
  bnd (drf x0) fun (p2 : Addr) =>
  bnd (ld .sl (Addr.add p2 2)) fun (v3 : Sl) =>
  bnd (ix 7 v3 r1.1) fun (p4 : Addr) =>
  bnd (ld .sl (Addr.add p4 2)) fun (v5 : Sl) =>
  ret (v5, (0 : Int)))
noncomputable def Af53_palaverref23_Stack_Lies : Ann := (.two .nil (.two .nil (.two (.two .nil (.two (.two .nil .nil) .nil)) (.two .nil .nil))))
theorem Cf53_palaverref23_Stack_Lies_ok : Cf53_palaverref23_Stack_Lies.Ok := mkC_ok mixed tysOk zerosOk eqsOk ⟨Sf77_palaverref23_Stack_of, trivial⟩ trivial
theorem Ef53_palaverref23_Stack_Lies (x : (Option Addr × Int)) : evF Cf53_palaverref23_Stack_Lies Try.f53 25 (.pair .ptr (.int .i64)) (.tup (.pair .sl (.int .i64))) Af53_palaverref23_Stack_Lies x = f53_palaverref23_Stack_Lies x.1 x.2 := by kernel_rfl
theorem Sf53_palaverref23_Stack_Lies : SoundF Try.prog 53 ⟨(.pair .ptr (.int .i64)), (.tup (.pair .sl (.int .i64))), fun x => f53_palaverref23_Stack_Lies x.1 x.2⟩ :=
  soundF_of Cf53_palaverref23_Stack_Lies_ok Try.func53 (by kernel_rfl) (by kernel_rfl) Ef53_palaverref23_Stack_Lies
noncomputable def Cf79_palaverref23_Stack_behind : Ctx := mkC Try.prog tys zeros eqs [(73, ⟨(.pair .ptr (.int .i64)), (.int .i64), fun x => f73_palaverref23_Stack_sender x.1 x.2⟩)] []
/-- (*palaverpalaverref23.Stack).behind -/
noncomputable def f79_palaverref23_Stack_behind (x0 : Option Addr) (x1 : Int) (x2 : Int) : M Bool :=
  loopM (fun (s1 : Int) =>
  cnd (decide (s1 ≥ (0 : Int))) (
  cnd (s1 == x2) (
  ret (Sum.inr true)) (
  bnd (f73_palaverref23_Stack_sender x0 s1) fun (r2 : Int) =>
  ret (Sum.inl r2))) (
  ret (Sum.inr false))) x1
noncomputable def Af79_palaverref23_Stack_behind : Ann := (.two .nil (.two (.one (.loop [(1, (.int .i64))] [6, 7, 8, 9, 10, 11, 12, 13, 14] (.two (.two .nil (.two .nil .nil)) (.one (.two (.two .nil (.two (.two .nil .nil) .nil)) .nil))))) (.two .nil .nil)))
theorem Cf79_palaverref23_Stack_behind_ok : Cf79_palaverref23_Stack_behind.Ok := mkC_ok mixed tysOk zerosOk eqsOk ⟨Sf73_palaverref23_Stack_sender, trivial⟩ trivial
theorem Ef79_palaverref23_Stack_behind (x : (Option Addr × (Int × Int))) : evF Cf79_palaverref23_Stack_behind Try.f79 15 (.pair .ptr (.pair (.int .i64) (.int .i64))) .bool Af79_palaverref23_Stack_behind x = f79_palaverref23_Stack_behind x.1 x.2.1 x.2.2 := by kernel_rfl
theorem Sf79_palaverref23_Stack_behind : SoundF Try.prog 79 ⟨(.pair .ptr (.pair (.int .i64) (.int .i64))), .bool, fun x => f79_palaverref23_Stack_behind x.1 x.2.1 x.2.2⟩ :=
  soundF_of Cf79_palaverref23_Stack_behind_ok Try.func79 (by kernel_rfl) (by kernel_rfl) Ef79_palaverref23_Stack_behind
noncomputable def Cf54_palaverref23_Stack_SetSender : Ctx := mkC Try.prog tys zeros eqs [(77, ⟨(.pair .ptr (.int .i64)), (.tup (.pair (.int .i64) (.int .i64))), fun x => f77_palaverref23_Stack_of x.1 x.2⟩), (79, ⟨(.pair .ptr (.pair (.int .i64) (.int .i64))), .bool, fun x => f79_palaverref23_Stack_behind x.1 x.2.1 x.2.2⟩)] []
/-- (*palaverpalaverref23.Stack).SetSender -/
noncomputable def f54_palaverref23_Stack_SetSender (x0 : Option Addr) (x1 : Int) (x2 : Int) : M Int :=
  bnd (f77_palaverref23_Stack_of x0 x1) fun (r1 : (Int × Int)) =>
  cnd (r1.2 != (0 : Int)) (
  ret r1.2) (
  cnd (x2 == (0 : Int)) (
  bnd (drf x0) fun (p2 : Addr) =>
  bnd (ld .sl (Addr.add p2 2)) fun (v3 : Sl) =>
  bnd (ix 7 v3 r1.1) fun (p4 : Addr) =>
  bnd (wrs (Addr.add p4 4) 0 [.int .i64 (-1 : Int)]) fun _ =>
  ret (0 : Int)) (
  bnd (f77_palaverref23_Stack_of x0 x2) fun (r5 : (Int × Int)) =>
  cnd (r5.2 != (0 : Int)) (
  ret r5.2) (
  bnd (f79_palaverref23_Stack_behind x0 r5.1 r1.1) fun (r6 : Bool) =>
  cnd r6 (
  ret (238 : Int)) (
  bnd (drf x0) fun (p7 : Addr) =>
  bnd (ld .sl (Addr.add p7 2)) fun (v8 : Sl) =>
  bnd (ix 7 v8 r1.1) fun (p9 : Addr) =>
  bnd (wrs (Addr.add p9 4) 0 [.int .i64 r5.1]) fun _ =>
  ret (0 : Int)))))
noncomputable def Af54_palaverref23_Stack_SetSender : Ann := (.two .nil (.two .nil (.two (.two .nil (.two (.two .nil .nil) .nil)) (.two (.two .nil (.two (.two .nil (.two .nil .nil)) .nil)) (.two .nil (.two (.two .nil (.two (.two .nil .nil) .nil)) (.two .nil (.two (.two .nil (.two (.two .nil .nil) .nil)) (.two .nil (.two .nil .nil))))))))))
theorem Cf54_palaverref23_Stack_SetSender_ok : Cf54_palaverref23_Stack_SetSender.Ok := mkC_ok mixed tysOk zerosOk eqsOk ⟨Sf77_palaverref23_Stack_of, Sf79_palaverref23_Stack_behind, trivial⟩ trivial
theorem Ef54_palaverref23_Stack_SetSender (x : (Option Addr × (Int × Int))) : evF Cf54_palaverref23_Stack_SetSender Try.f54 51 (.pair .ptr (.pair (.int .i64) (.int .i64))) (.int .i64) Af54_palaverref23_Stack_SetSender x = f54_palaverref23_Stack_SetSender x.1 x.2.1 x.2.2 := by kernel_rfl
theorem Sf54_palaverref23_Stack_SetSender : SoundF Try.prog 54 ⟨(.pair .ptr (.pair (.int .i64) (.int .i64))), (.int .i64), fun x => f54_palaverref23_Stack_SetSender x.1 x.2.1 x.2.2⟩ :=
  soundF_of Cf54_palaverref23_Stack_SetSender_ok Try.func54 (by kernel_rfl) (by kernel_rfl) Ef54_palaverref23_Stack_SetSender
noncomputable def Cf55_palaverref23_Stack_Switch : Ctx := mkC Try.prog tys zeros eqs [(77, ⟨(.pair .ptr (.int .i64)), (.tup (.pair (.int .i64) (.int .i64))), fun x => f77_palaverref23_Stack_of x.1 x.2⟩)] []
/-- (*palaverpalaverref23.Stack).Switch -/
noncomputable def f55_palaverref23_Stack_Switch (x0 : Option Addr) (x1 : Int) : M Int :=
  cnd (x1 == (0 : Int)) (
  bnd (drf x0) fun (p1 : Addr) =>
  bnd (wrs (Addr.add p1 3) 0 [.int .i64 (-1 : Int)]) fun _ =>
  ret (0 : Int)) (
  bnd (f77_palaverref23_Stack_of x0 x1) fun (r2 : (Int × Int)) =>
  bnd (
  cnd (r2.2 == (0 : Int)) (
  bnd (drf x0) fun (p4 : Addr) =>
  bnd (wrs (Addr.add p4 3) 0 [.int .i64 r2.1]) fun _ =>
  ret ()) (
  ret ())) fun (s3 : Unit) =>
  ret r2.2)
noncomputable def Af55_palaverref23_Stack_Switch : Ann := (.two .nil (.two (.two .nil (.two (.two .nil (.two .nil .nil)) .nil)) (.two .nil (.two (.two .nil (.join [] [20, 21, 22, 23] false (.two .nil .nil))) (.two .nil .nil)))))
theorem Cf55_palaverref23_Stack_Switch_ok : Cf55_palaverref23_Stack_Switch.Ok := mkC_ok mixed tysOk zerosOk eqsOk ⟨Sf77_palaverref23_Stack_of, trivial⟩ trivial
theorem Ef55_palaverref23_Stack_Switch (x : (Option Addr × Int)) : evF Cf55_palaverref23_Stack_Switch Try.f55 25 (.pair .ptr (.int .i64)) (.int .i64) Af55_palaverref23_Stack_Switch x = f55_palaverref23_Stack_Switch x.1 x.2 := by kernel_rfl
theorem Sf55_palaverref23_Stack_Switch : SoundF Try.prog 55 ⟨(.pair .ptr (.int .i64)), (.int .i64), fun x => f55_palaverref23_Stack_Switch x.1 x.2⟩ :=
  soundF_of Cf55_palaverref23_Stack_Switch_ok Try.func55 (by kernel_rfl) (by kernel_rfl) Ef55_palaverref23_Stack_Switch
noncomputable def Bf56_frames_Stack_Unwind : Ctx := mkC Try.prog tys zeros eqs [(36, ⟨(.pair .ptr .ptr), (.tup .unit), fun x => f36_frames_Stack_activate x.1 x.2⟩), (37, ⟨.ptr, .ptr, fun x => f37_frames_context_from x⟩), (38, ⟨(.pair .ptr .ptr), (.tup .unit), fun x => f38_frames_Stack_end x.1 x.2⟩), (39, ⟨(.pair .ptr (.pair .ptr (.int .i64))), (.int .i64), fun x => f39_frames_Stack_back x.1 x.2.1 x.2.2⟩), (60, ⟨.ptr, .ptr, fun x => f60_frames_Stack_this x⟩), (62, ⟨(.pair .ptr (.int .i64)), (.tup (.pair .ptr (.int .i64))), fun x => f62_frames_Stack_of x.1 x.2⟩), (65, ⟨(.pair .ptr .ptr), .bool, fun x => f65_frames_context_behind x.1 x.2⟩)] []
noncomputable def Cf56_frames_Stack_Unwind : Ctx := Bf56_frames_Stack_Unwind.with [] [(80, ⟨.ptr, .ptr, fun B x => f80_row B x⟩)]
/-- (*palaverframes.Stack).Unwind -/
noncomputable def f56_frames_Stack_Unwind (x0 : Option Addr) (x1 : Int) (x2 : Int) : M Int :=
  bnd (f60_frames_Stack_this x0) fun (r1 : Option Addr) =>
  cnd (Option.isNone r1) (
  ret (231 : Int)) (
  bnd (f62_frames_Stack_of x0 x1) fun (r2 : (Option Addr × Int)) =>
  bnd (newC 60 [.pointer none]) fun (p3 : Addr) =>
  bnd (wrs p3 0 [.pointer r2.1]) fun _ =>
  cnd (r2.2 != (0 : Int)) (
  ret r2.2) (
  bnd (ld .ptr p3) fun (v4 : Option Addr) =>
  bnd (f65_frames_context_behind r1 v4) fun (r5 : Bool) =>
  cnd (!r5) (
  ret (238 : Int)) (
  bnd (ld .ptr p3) fun (v6 : Option Addr) =>
  bnd (f37_frames_context_from v6) fun (r7 : Option Addr) =>
  bnd (newC 61 [.slice none 0 0]) fun (p8 : Addr) =>
  bnd (enterM 56 [.pointer x0, .int .i64 x1, .int .i64 x2, undef, undef, undef, .int .i64 (0 : Int), .pointer r1, .pointer (some p3), .int .i64 r2.2, .pointer r7, .pointer (some p8), undef, undef, undef, .pointer x0, .pointer r1, .pointer r1, .bool (Option.isNone r1), .tuple #[.pointer r2.1, .int .i64 r2.2], .pointer x0, .int .i64 x1, .tuple #[.pointer r2.1, .int .i64 r2.2], .pointer r2.1, .int .i64 r2.2, .bool (r2.2 != (0 : Int)), .int .i64 r2.2, .bool (r2.2 != (0 : Int)), undef, .bool (!r5), .pointer r1, .pointer v4, .bool r5, .bool (!r5), .pointer v6, .pointer r7, .pointer r1, .func (.func 80) #[.pointer r1] #[], undef, undef, undef, undef, undef, undef, undef, undef, undef, undef, undef, undef, undef, undef, undef, undef, undef, undef, undef, undef, undef, undef, undef, undef] (rgIn Try.f56).1 (rgIn Try.f56).2.1 (rgIn Try.f56).2.2) fun (D9 : Nat) =>
  bnd (f80_row (fun (z10 : Option Addr) =>
  bnd (recM 56 [.pointer x0, .int .i64 x1, .int .i64 x2, undef, undef, undef, .int .i64 (0 : Int), .pointer r1, .pointer (some p3), .int .i64 r2.2, .pointer r7, .pointer (some p8), undef, undef, undef, .pointer x0, .pointer r1, .pointer r1, .bool (Option.isNone r1), .tuple #[.pointer r2.1, .int .i64 r2.2], .pointer x0, .int .i64 x1, .tuple #[.pointer r2.1, .int .i64 r2.2], .pointer r2.1, .int .i64 r2.2, .bool (r2.2 != (0 : Int)), .int .i64 r2.2, .bool (r2.2 != (0 : Int)), undef, .bool (!r5), .pointer r1, .pointer v4, .bool r5, .bool (!r5), .pointer v6, .pointer r7, .pointer r1, .func (.func 80) #[.pointer r1] #[], undef, undef, undef, undef, undef, undef, undef, undef, undef, undef, undef, undef, undef, undef, undef, undef, undef, undef, undef, undef, undef, undef, undef, undef] (rgIn Try.f56).1 (rgIn Try.f56).2.1 (rgIn Try.f56).2.2 D9) fun _ =>
  bnd (beginM Try.prog (D9 + 1)) fun _ =>
  bnd (ld .sl p8) fun (v13 : Sl) =>
  bnd (runV Try.prog .sl (Instr.buildSlice 61 1 #[(0, .pointer z10)])) fun (v14 : Sl) =>
  bnd (runV Try.prog .sl (Builtin.append_ #[61, 61] 61 #[.slice v13.a v13.len v13.cap, .slice v14.a v14.len v14.cap])) fun (v15 : Sl) =>
  bnd (wrs p8 0 [.slice v15.a v15.len v15.cap]) fun _ =>
  bnd (ld .ptr p3) fun (v16 : Option Addr) =>
  bnd (runV Try.prog .bool (binOp .eql 60 (.pointer z10) (.pointer v16))) fun (v17 : Bool) =>
  cnd v17 (
  endM Try.prog (D9 + 1) (some (.exit 1))) (
  endM Try.prog (D9 + 1) none)) r1) fun _ =>
  bnd (leaveM Try.prog (D9 + 1)) fun (j11 : Option Code) =>
  match j11 with
  | none =>
  bnd (f36_frames_Stack_activate x0 none) fun (r18 : Unit) =>
  bnd (ld .sl p8) fun (v19 : Sl) =>
  loopM (fun (s20 : Int) =>
  cnd (decide (s20 < (v19.len : Int))) (
  bnd (ix 1 v19 s20) fun (p21 : Addr) =>
  bnd (ld .ptr p21) fun (v22 : Option Addr) =>
  bnd (f38_frames_Stack_end x0 v22) fun (r23 : Unit) =>
  ret (Sum.inl (IntKind.wrap .i64 (s20 + (1 : Int))))) (
  bnd (
  bnd (f39_frames_Stack_back x0 r7 x2) fun (r24 : Int) =>
  bnd (takeM Try.prog D9) fun _ =>
  ret r24) fun r25 =>
  ret (Sum.inr r25))) (0 : Int)
  | some .ret =>
  bnd (takeM Try.prog D9) fun _ =>
  ret (0 : Int)
  | some (.exit i12) =>
  cond (Nat.beq i12 1) (
  bnd (f36_frames_Stack_activate x0 none) fun (r26 : Unit) =>
  bnd (ld .sl p8) fun (v27 : Sl) =>
  loopM (fun (s28 : Int) =>
  cnd (decide (s28 < (v27.len : Int))) (
  bnd (ix 1 v27 s28) fun (p29 : Addr) =>
  bnd (ld .ptr p29) fun (v30 : Option Addr) =>
  bnd (f38_frames_Stack_end x0 v30) fun (r31 : Unit) =>
  ret (Sum.inl (IntKind.wrap .i64 (s28 + (1 : Int))))) (
  bnd (
  bnd (f39_frames_Stack_back x0 r7 x2) fun (r32 : Int) =>
  bnd (takeM Try.prog D9) fun _ =>
  ret r32) fun r33 =>
  ret (Sum.inr r33))) (0 : Int)) (
  fail)
  | some _ => fail)))
noncomputable def Af56_frames_Stack_Unwind : Ann := (.two .nil (.two .nil (.two (.two .nil (.two (.two .nil .nil) .nil)) (.two .nil (.two (.one (.two .nil (.two (.two .nil .nil) (.two .nil (.two (.two .nil .nil) .nil))))) (.two .nil (.two .nil (.two (.two .nil (.one (.rng 56 .nil (.one (.two .nil (.two .nil (.two .nil .nil))))))) (.two .nil (.two (.two .nil (.one (.loop [(50, (.int .i64))] [14, 51, 52, 53, 54, 55, 56, 57] (.two .nil (.two (.two .nil .nil) (.two (.one (.two .nil .nil)) .nil)))))) (.two .nil .nil)))))))))))
theorem Bf56_frames_Stack_Unwind_ok : Bf56_frames_Stack_Unwind.Ok := mkC_ok mixed tysOk zerosOk eqsOk ⟨Sf36_frames_Stack_activate, Sf37_frames_context_from, Sf38_frames_Stack_end, Sf39_frames_Stack_back, Sf60_frames_Stack_this, Sf62_frames_Stack_of, Sf65_frames_context_behind, trivial⟩ trivial
theorem Cf56_frames_Stack_Unwind_ok : Cf56_frames_Stack_Unwind.Ok := with_ok Bf56_frames_Stack_Unwind_ok trivial ⟨Sf80_row, trivial⟩
theorem Ef56_frames_Stack_Unwind (x : (Option Addr × (Int × Int))) : evF Cf56_frames_Stack_Unwind Try.f56 62 (.pair .ptr (.pair (.int .i64) (.int .i64))) (.int .i64) Af56_frames_Stack_Unwind x = f56_frames_Stack_Unwind x.1 x.2.1 x.2.2 := by kernel_rfl
theorem Sf56_frames_Stack_Unwind : SoundF Try.prog 56 ⟨(.pair .ptr (.pair (.int .i64) (.int .i64))), (.int .i64), fun x => f56_frames_Stack_Unwind x.1 x.2.1 x.2.2⟩ :=
  soundF_of Cf56_frames_Stack_Unwind_ok Try.func56 (by kernel_rfl) (by kernel_rfl) Ef56_frames_Stack_Unwind
noncomputable def Cf57_palaverref23_Stack_Unwind : Ctx := mkC Try.prog tys zeros eqs [(73, ⟨(.pair .ptr (.int .i64)), (.int .i64), fun x => f73_palaverref23_Stack_sender x.1 x.2⟩), (74, ⟨(.pair .ptr (.int .i64)), (.tup .unit), fun x => f74_palaverref23_Stack_ends x.1 x.2⟩), (75, ⟨(.pair .ptr (.pair (.int .i64) (.int .i64))), (.int .i64), fun x => f75_palaverref23_Stack_back x.1 x.2.1 x.2.2⟩), (77, ⟨(.pair .ptr (.int .i64)), (.tup (.pair (.int .i64) (.int .i64))), fun x => f77_palaverref23_Stack_of x.1 x.2⟩), (79, ⟨(.pair .ptr (.pair (.int .i64) (.int .i64))), .bool, fun x => f79_palaverref23_Stack_behind x.1 x.2.1 x.2.2⟩)] []
/-- (*palaverpalaverref23.Stack).Unwind -/
noncomputable def f57_palaverref23_Stack_Unwind (x0 : Option Addr) (x1 : Int) (x2 : Int) : M Int :=
  bnd (drf x0) fun (p1 : Addr) =>
  bnd (ld (.int .i64) (Addr.add p1 3)) fun (v2 : Int) =>
  cnd (decide (v2 < (0 : Int))) (
  ret (231 : Int)) (
  bnd (f77_palaverref23_Stack_of x0 x1) fun (r3 : (Int × Int)) =>
  cnd (r3.2 != (0 : Int)) (
  ret r3.2) (
  bnd (drf x0) fun (p4 : Addr) =>
  bnd (ld (.int .i64) (Addr.add p4 3)) fun (v5 : Int) =>
  bnd (f79_palaverref23_Stack_behind x0 v5 r3.1) fun (r6 : Bool) =>
  cnd (!r6) (
  ret (238 : Int)) (
  bnd (drf x0) fun (p7 : Addr) =>
  bnd (ld (.int .i64) (Addr.add p7 3)) fun (v8 : Int) =>
  loopM (fun (s9 : Int) =>
  cnd (s9 != r3.1) (
  bnd (f73_palaverref23_Stack_sender x0 s9) fun (r10 : Int) =>
  bnd (f74_palaverref23_Stack_ends x0 s9) fun (r11 : Unit) =>
  ret (Sum.inl r10)) (
  bnd (
  bnd (f73_palaverref23_Stack_sender x0 r3.1) fun (r12 : Int) =>
  bnd (f74_palaverref23_Stack_ends x0 r3.1) fun (r13 : Unit) =>
  bnd (f75_palaverref23_Stack_back x0 r12 x2) fun (r14 : Int) =>
  ret r14) fun r15 =>
  ret (Sum.inr r15))) v8)))
noncomputable def Af57_palaverref23_Stack_Unwind : Ann := (.two .nil (.two (.two .nil (.two (.two .nil .nil) .nil)) (.two .nil (.two (.two .nil (.two (.two .nil .nil) .nil)) (.two .nil (.two (.two .nil (.two (.two .nil .nil) .nil)) (.two .nil (.two (.one (.loop [(10, (.int .i64))] [11, 40, 41, 42, 43, 44, 45, 46, 47, 48, 49] (.two (.two .nil (.two .nil .nil)) (.one (.two .nil (.two .nil .nil)))))) (.two .nil (.two .nil (.two .nil .nil)))))))))))
theorem Cf57_palaverref23_Stack_Unwind_ok : Cf57_palaverref23_Stack_Unwind.Ok := mkC_ok mixed tysOk zerosOk eqsOk ⟨Sf73_palaverref23_Stack_sender, Sf74_palaverref23_Stack_ends, Sf75_palaverref23_Stack_back, Sf77_palaverref23_Stack_of, Sf79_palaverref23_Stack_behind, trivial⟩ trivial
theorem Ef57_palaverref23_Stack_Unwind (x : (Option Addr × (Int × Int))) : evF Cf57_palaverref23_Stack_Unwind Try.f57 60 (.pair .ptr (.pair (.int .i64) (.int .i64))) (.int .i64) Af57_palaverref23_Stack_Unwind x = f57_palaverref23_Stack_Unwind x.1 x.2.1 x.2.2 := by kernel_rfl
theorem Sf57_palaverref23_Stack_Unwind : SoundF Try.prog 57 ⟨(.pair .ptr (.pair (.int .i64) (.int .i64))), (.int .i64), fun x => f57_palaverref23_Stack_Unwind x.1 x.2.1 x.2.2⟩ :=
  soundF_of Cf57_palaverref23_Stack_Unwind_ok Try.func57 (by kernel_rfl) (by kernel_rfl) Ef57_palaverref23_Stack_Unwind
noncomputable def Cf58_palaverref23_Stack_Alive : Ctx := mkC Try.prog tys zeros eqs [(77, ⟨(.pair .ptr (.int .i64)), (.tup (.pair (.int .i64) (.int .i64))), fun x => f77_palaverref23_Stack_of x.1 x.2⟩)] []
/-- (*palaverpalaverref23.Stack).Alive -/
noncomputable def f58_palaverref23_Stack_Alive (x0 : Option Addr) (x1 : Int) : M Bool :=
  bnd (f77_palaverref23_Stack_of x0 x1) fun (r1 : (Int × Int)) =>
  ret (r1.2 == (0 : Int))
noncomputable def Af58_palaverref23_Stack_Alive : Ann := (.two .nil (.two .nil (.two .nil .nil)))
theorem Cf58_palaverref23_Stack_Alive_ok : Cf58_palaverref23_Stack_Alive.Ok := mkC_ok mixed tysOk zerosOk eqsOk ⟨Sf77_palaverref23_Stack_of, trivial⟩ trivial
theorem Ef58_palaverref23_Stack_Alive (x : (Option Addr × Int)) : evF Cf58_palaverref23_Stack_Alive Try.f58 15 (.pair .ptr (.int .i64)) .bool Af58_palaverref23_Stack_Alive x = f58_palaverref23_Stack_Alive x.1 x.2 := by kernel_rfl
theorem Sf58_palaverref23_Stack_Alive : SoundF Try.prog 58 ⟨(.pair .ptr (.int .i64)), .bool, fun x => f58_palaverref23_Stack_Alive x.1 x.2⟩ :=
  soundF_of Cf58_palaverref23_Stack_Alive_ok Try.func58 (by kernel_rfl) (by kernel_rfl) Ef58_palaverref23_Stack_Alive
noncomputable def Cf19_frames_Stack_Flush : Ctx := mkC Try.prog tys zeros eqs [(61, ⟨(.pair .ptr (.pair .ptr (.int .i64))), (.tup .unit), fun x => f61_frames_Stack_part x.1 x.2.1 x.2.2⟩)] []
/-- (*palaverframes.Stack).Flush -/
noncomputable def f19_frames_Stack_Flush (x0 : Option Addr) : M Unit :=
  bnd (drf x0) fun (p1 : Addr) =>
  bnd (ld .sl (Addr.add p1 0)) fun (v2 : Sl) =>
  loopM (fun (s3 : Int) =>
  cnd (decide (s3 < (v2.len : Int))) (
  bnd (ix 1 v2 s3) fun (p4 : Addr) =>
  bnd (ld .ptr p4) fun (v5 : Option Addr) =>
  bnd (f61_frames_Stack_part x0 v5 (0 : Int)) fun (r6 : Unit) =>
  ret (Sum.inl (IntKind.wrap .i64 (s3 + (1 : Int))))) (
  ret (Sum.inr ()))) (0 : Int)
noncomputable def Af19_frames_Stack_Flush : Ann := (.two .nil (.one (.loop [(9, (.int .i64))] [3, 10, 11, 12, 13, 14, 15, 16] (.two .nil (.two (.two .nil .nil) (.two (.one (.two .nil .nil)) .nil))))))
theorem Cf19_frames_Stack_Flush_ok : Cf19_frames_Stack_Flush.Ok := mkC_ok mixed tysOk zerosOk eqsOk ⟨Sf61_frames_Stack_part, trivial⟩ trivial
theorem Ef19_frames_Stack_Flush (x : Option Addr) : evF Cf19_frames_Stack_Flush Try.f19 17 .ptr (.tup .unit) Af19_frames_Stack_Flush x = f19_frames_Stack_Flush x := by kernel_rfl
theorem Sf19_frames_Stack_Flush : SoundF Try.prog 19 ⟨.ptr, (.tup .unit), fun x => f19_frames_Stack_Flush x⟩ :=
  soundF_of Cf19_frames_Stack_Flush_ok Try.func19 (by kernel_rfl) (by kernel_rfl) Ef19_frames_Stack_Flush
noncomputable def Cf16_palaverlaw23_does : Ctx := mkC Try.prog tys zeros eqs [(8, ⟨(.pair .ptr (.pair (.int .i64) (.pair .sl (.int .i64)))), (.int .i64), fun x => f8_frames_Stack_Call x.1 x.2.1 x.2.2.1 x.2.2.2⟩), (9, ⟨(.pair .ptr (.int .i64)), (.int .i64), fun x => f9_frames_Stack_Push x.1 x.2⟩), (10, ⟨(.pair .ptr (.pair (.int .i64) (.int .i64))), (.int .i64), fun x => f10_frames_Stack_Set x.1 x.2.1 x.2.2⟩), (11, ⟨(.pair .ptr (.int .i64)), (.int .i64), fun x => f11_frames_Stack_Return x.1 x.2⟩), (12, ⟨.ptr, (.tup (.pair (.int .i64) (.int .i64))), fun x => f12_frames_Stack_Pop x⟩), (13, ⟨(.pair .ptr (.int .i64)), (.tup (.pair (.int .i64) (.int .i64))), fun x => f13_frames_Stack_Get x.1 x.2⟩), (14, ⟨.ptr, (.tup (.pair (.int .i64) (.int .i64))), fun x => f14_frames_Stack_Count x⟩), (18, ⟨.ptr, (.int .i64), fun x => f18_frames_Stack_This x⟩), (19, ⟨.ptr, (.tup .unit), fun x => f19_frames_Stack_Flush x⟩), (21, ⟨(.pair .ptr (.int .i64)), (.tup (.pair .sl (.int .i64))), fun x => f21_frames_Stack_Lies x.1 x.2⟩), (22, ⟨(.pair .sl .sl), .bool, fun x => f22_palaverlaw23_same x.1 x.2⟩), (23, ⟨(.pair .ptr (.int .i64)), .bool, fun x => f23_frames_Stack_Alive x.1 x.2⟩), (24, ⟨(.pair .ptr (.int .i64)), (.tup (.pair (.int .i64) (.int .i64))), fun x => f24_frames_Stack_Sender x.1 x.2⟩), (25, ⟨(.pair .ptr (.int .i64)), (.tup (.pair (.int .i64) (.int .i64))), fun x => f25_frames_Stack_Method x.1 x.2⟩), (26, ⟨(.pair .ptr (.pair (.int .i64) (.int .i64))), (.int .i64), fun x => f26_frames_Stack_SetSender x.1 x.2.1 x.2.2⟩), (27, ⟨(.pair .ptr (.int .i64)), (.int .i64), fun x => f27_frames_Stack_Switch x.1 x.2⟩), (40, ⟨(.pair .ptr (.pair (.int .i64) (.pair .sl (.int .i64)))), (.int .i64), fun x => f40_palaverref23_Stack_Call x.1 x.2.1 x.2.2.1 x.2.2.2⟩), (41, ⟨(.pair .ptr (.int .i64)), (.int .i64), fun x => f41_palaverref23_Stack_Push x.1 x.2⟩), (42, ⟨.ptr, (.tup (.pair (.int .i64) (.int .i64))), fun x => f42_palaverref23_Stack_Pop x⟩), (43, ⟨(.pair .ptr (.int .i64)), (.tup (.pair (.int .i64) (.int .i64))), fun x => f43_palaverref23_Stack_Get x.1 x.2⟩), (44, ⟨(.pair .ptr (.pair (.int .i64) (.int .i64))), (.int .i64), fun x => f44_palaverref23_Stack_Set x.1 x.2.1 x.2.2⟩), (45, ⟨(.pair .ptr (.int .i64)), (.int .i64), fun x => f45_palaverref23_Stack_Return x.1 x.2⟩), (46, ⟨.ptr, (.int .i64), fun x => f46_palaverref23_Stack_This x⟩), (47, ⟨(.pair .ptr (.int .i64)), (.tup (.pair (.int .i64) (.int .i64))), fun x => f47_palaverref23_Stack_Sender x.1 x.2⟩), (48, ⟨(.pair .ptr (.int .i64)), (.tup (.pair (.int .i64) (.int .i64))), fun x => f48_palaverref23_Stack_Method x.1 x.2⟩), (49, ⟨(.pair .ptr (.pair (.int .i64) (.int .i64))), (.tup (.pair (.int .i64) (.int .i64))), fun x => f49_frames_Stack_Slot x.1 x.2.1 x.2.2⟩), (50, ⟨(.pair .ptr (.pair (.int .i64) (.int .i64))), (.tup (.pair (.int .i64) (.int .i64))), fun x => f50_palaverref23_Stack_Slot x.1 x.2.1 x.2.2⟩), (51, ⟨(.pair .ptr (.pair (.int .i64) (.pair (.int .i64) (.int .i64)))), (.int .i64), fun x => f51_frames_Stack_SetSlot x.1 x.2.1 x.2.2.1 x.2.2.2⟩), (52, ⟨(.pair .ptr (.pair (.int .i64) (.pair (.int .i64) (.int .i64)))), (.int .i64), fun x => f52_palaverref23_Stack_SetSlot x.1 x.2.1 x.2.2.1 x.2.2.2⟩), (53, ⟨(.pair .ptr (.int .i64)), (.tup (.pair .sl (.int .i64))), fun x => f53_palaverref23_Stack_Lies x.1 x.2⟩), (54, ⟨(.pair .ptr (.pair (.int .i64) (.int .i64))), (.int .i64), fun x => f54_palaverref23_Stack_SetSender x.1 x.2.1 x.2.2⟩), (55, ⟨(.pair .ptr (.int .i64)), (.int .i64), fun x => f55_palaverref23_Stack_Switch x.1 x.2⟩), (56, ⟨(.pair .ptr (.pair (.int .i64) (.int .i64))), (.int .i64), fun x => f56_frames_Stack_Unwind x.1 x.2.1 x.2.2⟩), (57, ⟨(.pair .ptr (.pair (.int .i64) (.int .i64))), (.int .i64), fun x => f57_palaverref23_Stack_Unwind x.1 x.2.1 x.2.2⟩), (58, ⟨(.pair .ptr (.int .i64)), .bool, fun x => f58_palaverref23_Stack_Alive x.1 x.2⟩)] []
/-- palaverpalaverlaw23.does -/
noncomputable def f16_palaverlaw23_does (x0 : Option Addr) (x1 : Option Addr) (x2 : (Int × (Int × (Int × (Int × (Int × (Int × Sl))))))) : M Bool :=
  bnd (newC 42 [.int .i64 x2.1, .int .i64 x2.2.1, .int .i64 x2.2.2.1, .int .i64 x2.2.2.2.1, .int .i64 x2.2.2.2.2.1, .int .i64 x2.2.2.2.2.2.1, .slice x2.2.2.2.2.2.2.a x2.2.2.2.2.2.2.len x2.2.2.2.2.2.2.cap]) fun (p1 : Addr) =>
  bnd (ld (.int .i64) (Addr.add p1 0)) fun (v2 : Int) =>
  cnd (v2 == (1 : Int)) (
  bnd (
  bnd (ordM 16 3 (regionIn 3 Try.f16)) fun (o4 : List Nat) =>
  bnd (ld .sl (Addr.add p1 6)) fun (v5 : Sl) =>
  bnd (ld .sl (Addr.add p1 6)) fun (v6 : Sl) =>
  bnd (runV Try.prog .sl (Instr.makeSlice 22 (.int .i64 (0 : Int)) (.int .i64 (IntKind.wrap .i64 ((v5.len : Int) + (1 : Int)))))) fun (v7 : Sl) =>
  bnd (
  bnd (chk .sl (Addr.add p1 6) v6) fun _ =>
  bnd (chk .sl (Addr.add p1 6) v5) fun _ =>
  ret ()) fun _ =>
  bnd (runV Try.prog .sl (Builtin.append_ #[22, 22] 22 #[.slice v7.a v7.len v7.cap, .slice v6.a v6.len v6.cap])) fun (v8 : Sl) =>
  bnd (
  bnd (chk .sl (Addr.add p1 6) v5) fun _ =>
  ret ()) fun _ =>
  ret v8) fun (s3 : Sl) =>
  bnd (ld (.int .i64) (Addr.add p1 1)) fun (v9 : Int) =>
  bnd (ld (.int .i64) (Addr.add p1 5)) fun (v10 : Int) =>
  bnd (f8_frames_Stack_Call x0 v9 s3 v10) fun (r11 : Int) =>
  bnd (ld (.int .i64) (Addr.add p1 1)) fun (v12 : Int) =>
  bnd (ld .sl (Addr.add p1 6)) fun (v13 : Sl) =>
  bnd (ld (.int .i64) (Addr.add p1 5)) fun (v14 : Int) =>
  bnd (f40_palaverref23_Stack_Call x1 v12 v13 v14) fun (r15 : Int) =>
  bnd (ld .sl (Addr.add p1 6)) fun (v16 : Sl) =>
  bnd (f22_palaverlaw23_same s3 v16) fun (r17 : Bool) =>
  loopM (fun (s18 : Int) =>
  cnd (decide (s18 < (s3.len : Int))) (
  bnd (ix 1 s3 s18) fun (p19 : Addr) =>
  bnd (wrs p19 0 [.int .i64 (-77 : Int)]) fun _ =>
  ret (Sum.inl (IntKind.wrap .i64 (s18 + (1 : Int))))) (
  ret (Sum.inr (cond (r11 == r15) r17 false)))) (0 : Int)) (
  cnd (v2 == (2 : Int)) (
  bnd (ld (.int .i64) (Addr.add p1 2)) fun (v20 : Int) =>
  bnd (f9_frames_Stack_Push x0 v20) fun (r21 : Int) =>
  bnd (ld (.int .i64) (Addr.add p1 2)) fun (v22 : Int) =>
  bnd (f41_palaverref23_Stack_Push x1 v22) fun (r23 : Int) =>
  ret (r21 == r23)) (
  cnd (v2 == (3 : Int)) (
  bnd (f12_frames_Stack_Pop x0) fun (r24 : (Int × Int)) =>
  bnd (f42_palaverref23_Stack_Pop x1) fun (r25 : (Int × Int)) =>
  ret (cond (r24.1 == r25.1) (r24.2 == r25.2) false)) (
  cnd (v2 == (4 : Int)) (
  bnd (ld (.int .i64) (Addr.add p1 5)) fun (v26 : Int) =>
  bnd (f13_frames_Stack_Get x0 v26) fun (r27 : (Int × Int)) =>
  bnd (ld (.int .i64) (Addr.add p1 5)) fun (v28 : Int) =>
  bnd (f43_palaverref23_Stack_Get x1 v28) fun (r29 : (Int × Int)) =>
  ret (cond (r27.1 == r29.1) (r27.2 == r29.2) false)) (
  cnd (v2 == (5 : Int)) (
  bnd (ld (.int .i64) (Addr.add p1 5)) fun (v30 : Int) =>
  bnd (ld (.int .i64) (Addr.add p1 2)) fun (v31 : Int) =>
  bnd (f10_frames_Stack_Set x0 v30 v31) fun (r32 : Int) =>
  bnd (ld (.int .i64) (Addr.add p1 5)) fun (v33 : Int) =>
  bnd (ld (.int .i64) (Addr.add p1 2)) fun (v34 : Int) =>
  bnd (f44_palaverref23_Stack_Set x1 v33 v34) fun (r35 : Int) =>
  ret (r32 == r35)) (
  cnd (v2 == (6 : Int)) (
  bnd (ld (.int .i64) (Addr.add p1 2)) fun (v36 : Int) =>
  bnd (f11_frames_Stack_Return x0 v36) fun (r37 : Int) =>
  bnd (ld (.int .i64) (Addr.add p1 2)) fun (v38 : Int) =>
  bnd (f45_palaverref23_Stack_Return x1 v38) fun (r39 : Int) =>
  ret (r37 == r39)) (
  cnd (v2 == (7 : Int)) (
  bnd (f18_frames_Stack_This x0) fun (r40 : Int) =>
  bnd (f46_palaverref23_Stack_This x1) fun (r41 : Int) =>
  ret (r40 == r41)) (
  cnd (v2 == (8 : Int)) (
  bnd (ld (.int .i64) (Addr.add p1 3)) fun (v42 : Int) =>
  bnd (f24_frames_Stack_Sender x0 v42) fun (r43 : (Int × Int)) =>
  bnd (ld (.int .i64) (Addr.add p1 3)) fun (v44 : Int) =>
  bnd (f47_palaverref23_Stack_Sender x1 v44) fun (r45 : (Int × Int)) =>
  ret (cond (r43.1 == r45.1) (r43.2 == r45.2) false)) (
  cnd (v2 == (9 : Int)) (
  bnd (ld (.int .i64) (Addr.add p1 3)) fun (v46 : Int) =>
  bnd (f25_frames_Stack_Method x0 v46) fun (r47 : (Int × Int)) =>
  bnd (ld (.int .i64) (Addr.add p1 3)) fun (v48 : Int) =>
  bnd (f48_palaverref23_Stack_Method x1 v48) fun (r49 : (Int × Int)) =>
  ret (cond (r47.1 == r49.1) (r47.2 == r49.2) false)) (
  cnd (v2 == (10 : Int)) (
  bnd (ld (.int .i64) (Addr.add p1 3)) fun (v50 : Int) =>
  bnd (ld (.int .i64) (Addr.add p1 5)) fun (v51 : Int) =>
  bnd (f49_frames_Stack_Slot x0 v50 v51) fun (r52 : (Int × Int)) =>
  bnd (ld (.int .i64) (Addr.add p1 3)) fun (v53 : Int) =>
  bnd (ld (.int .i64) (Addr.add p1 5)) fun (v54 : Int) =>
  bnd (f50_palaverref23_Stack_Slot x1 v53 v54) fun (r55 : (Int × Int)) =>
  ret (cond (r52.1 == r55.1) (r52.2 == r55.2) false)) (
  cnd (v2 == (11 : Int)) (
  bnd (ld (.int .i64) (Addr.add p1 3)) fun (v56 : Int) =>
  bnd (ld (.int .i64) (Addr.add p1 5)) fun (v57 : Int) =>
  bnd (ld (.int .i64) (Addr.add p1 2)) fun (v58 : Int) =>
  bnd (f51_frames_Stack_SetSlot x0 v56 v57 v58) fun (r59 : Int) =>
  bnd (ld (.int .i64) (Addr.add p1 3)) fun (v60 : Int) =>
  bnd (ld (.int .i64) (Addr.add p1 5)) fun (v61 : Int) =>
  bnd (ld (.int .i64) (Addr.add p1 2)) fun (v62 : Int) =>
  bnd (f52_palaverref23_Stack_SetSlot x1 v60 v61 v62) fun (r63 : Int) =>
  ret (r59 == r63)) (
  cnd (v2 == (12 : Int)) (
  bnd (ld (.int .i64) (Addr.add p1 3)) fun (v64 : Int) =>
  bnd (f21_frames_Stack_Lies x0 v64) fun (r65 : (Sl × Int)) =>
  bnd (ld (.int .i64) (Addr.add p1 3)) fun (v66 : Int) =>
  bnd (f53_palaverref23_Stack_Lies x1 v66) fun (r67 : (Sl × Int)) =>
  bnd (f22_palaverlaw23_same r65.1 r67.1) fun (r68 : Bool) =>
  loopM (fun (s69 : Int) =>
  cnd (decide (s69 < (r65.1.len : Int))) (
  bnd (ix 1 r65.1 s69) fun (p70 : Addr) =>
  bnd (wrs p70 0 [.int .i64 (-78 : Int)]) fun _ =>
  ret (Sum.inl (IntKind.wrap .i64 (s69 + (1 : Int))))) (
  ret (Sum.inr (cond r68 (r65.2 == r67.2) false)))) (0 : Int)) (
  cnd (v2 == (13 : Int)) (
  bnd (ld (.int .i64) (Addr.add p1 3)) fun (v71 : Int) =>
  bnd (ld (.int .i64) (Addr.add p1 4)) fun (v72 : Int) =>
  bnd (f26_frames_Stack_SetSender x0 v71 v72) fun (r73 : Int) =>
  bnd (ld (.int .i64) (Addr.add p1 3)) fun (v74 : Int) =>
  bnd (ld (.int .i64) (Addr.add p1 4)) fun (v75 : Int) =>
  bnd (f54_palaverref23_Stack_SetSender x1 v74 v75) fun (r76 : Int) =>
  ret (r73 == r76)) (
  cnd (v2 == (14 : Int)) (
  bnd (ld (.int .i64) (Addr.add p1 3)) fun (v77 : Int) =>
  bnd (f27_frames_Stack_Switch x0 v77) fun (r78 : Int) =>
  bnd (ld (.int .i64) (Addr.add p1 3)) fun (v79 : Int) =>
  bnd (f55_palaverref23_Stack_Switch x1 v79) fun (r80 : Int) =>
  ret (r78 == r80)) (
  cnd (v2 == (15 : Int)) (
  bnd (ld (.int .i64) (Addr.add p1 3)) fun (v81 : Int) =>
  bnd (ld (.int .i64) (Addr.add p1 2)) fun (v82 : Int) =>
  bnd (f56_frames_Stack_Unwind x0 v81 v82) fun (r83 : Int) =>
  bnd (ld (.int .i64) (Addr.add p1 3)) fun (v84 : Int) =>
  bnd (ld (.int .i64) (Addr.add p1 2)) fun (v85 : Int) =>
  bnd (f57_palaverref23_Stack_Unwind x1 v84 v85) fun (r86 : Int) =>
  ret (r83 == r86)) (
  cnd (v2 == (16 : Int)) (
  bnd (ld (.int .i64) (Addr.add p1 3)) fun (v87 : Int) =>
  bnd (f23_frames_Stack_Alive x0 v87) fun (r88 : Bool) =>
  bnd (ld (.int .i64) (Addr.add p1 3)) fun (v89 : Int) =>
  bnd (f58_palaverref23_Stack_Alive x1 v89) fun (r90 : Bool) =>
  ret (r88 == r90)) (
  cnd (v2 == (17 : Int)) (
  bnd (f19_frames_Stack_Flush x0) fun (r91 : Unit) =>
  bnd (f14_frames_Stack_Count x0) fun (r92 : (Int × Int)) =>
  ret (r92.2 == (0 : Int))) (
  bnd (f14_frames_Stack_Count x0) fun (r93 : (Int × Int)) =>
  bnd (drf x1) fun (p94 : Addr) =>
  bnd (ld (.int .i64) (Addr.add p94 5)) fun (v95 : Int) =>
  ret (cond (cond (r93.1 == v95) (decide (r93.2 ≥ (0 : Int))) false) (decide (r93.2 ≤ r93.1)) false))))))))))))))))))
noncomputable def Af16_palaverlaw23_does : Ann := (.two .nil (.two (.two .nil (.one (.two .nil (.two (.two (.join [(7, .sl)] [64, 65, 66, 67, 68, 69, 70, 71] false (.ord 16 [(0, 510), (1, 508), (2, 505), (4, 499), (8, 487), (0, 479), (32, 415), (80, 303), (255, 127)] (.o 0 (.o 1 (.o 2 (.o 3 (.o 5 (.o 6 (.o 4 (.o 7 (.o 8 .done))))))))))) (.two .nil (.two .nil (.two .nil (.two (.two .nil (.one (.loop [(11, (.int .i64))] [91, 92, 93, 94, 95, 96, 97, 98, 99] (.two (.two .nil (.two .nil .nil)) (.two (.one .nil) .nil))))) (.two .nil .nil)))))) (.two .nil (.two (.two .nil (.two .nil (.two .nil .nil))) (.two .nil (.two (.two .nil (.two .nil (.two .nil .nil))) (.two .nil (.two (.two .nil (.two .nil (.two .nil .nil))) (.two .nil (.two (.two .nil (.two .nil (.two .nil .nil))) (.two .nil (.two (.two .nil (.two .nil (.two .nil .nil))) (.two .nil (.two (.two .nil (.two .nil (.two .nil .nil))) (.two .nil (.two (.two .nil (.two .nil (.two .nil .nil))) (.two .nil (.two (.two .nil (.two .nil (.two .nil .nil))) (.two .nil (.two (.two .nil (.two .nil (.two .nil .nil))) (.two .nil (.two (.two .nil (.two .nil (.two .nil .nil))) (.two .nil (.two (.two .nil (.two .nil (.two .nil (.two (.two .nil (.one (.loop [(47, (.int .i64))] [318, 319, 320, 321, 322, 323, 324, 325, 326] (.two (.two .nil (.two .nil .nil)) (.two (.one .nil) .nil))))) (.two .nil .nil))))) (.two .nil (.two (.two .nil (.two .nil (.two .nil .nil))) (.two .nil (.two (.two .nil (.two .nil (.two .nil .nil))) (.two .nil (.two (.two .nil (.two .nil (.two .nil .nil))) (.two .nil (.two (.two .nil (.two .nil (.two .nil .nil))) (.two .nil (.two (.two .nil (.two .nil (.two .nil .nil))) .nil)))))))))))))))))))))))))))))))))))) (.two .nil (.two .nil .nil))))
theorem Cf16_palaverlaw23_does_ok : Cf16_palaverlaw23_does.Ok := mkC_ok mixed tysOk zerosOk eqsOk ⟨Sf8_frames_Stack_Call, Sf9_frames_Stack_Push, Sf10_frames_Stack_Set, Sf11_frames_Stack_Return, Sf12_frames_Stack_Pop, Sf13_frames_Stack_Get, Sf14_frames_Stack_Count, Sf18_frames_Stack_This, Sf19_frames_Stack_Flush, Sf21_frames_Stack_Lies, Sf22_palaverlaw23_same, Sf23_frames_Stack_Alive, Sf24_frames_Stack_Sender, Sf25_frames_Stack_Method, Sf26_frames_Stack_SetSender, Sf27_frames_Stack_Switch, Sf40_palaverref23_Stack_Call, Sf41_palaverref23_Stack_Push, Sf42_palaverref23_Stack_Pop, Sf43_palaverref23_Stack_Get, Sf44_palaverref23_Stack_Set, Sf45_palaverref23_Stack_Return, Sf46_palaverref23_Stack_This, Sf47_palaverref23_Stack_Sender, Sf48_palaverref23_Stack_Method, Sf49_frames_Stack_Slot, Sf50_palaverref23_Stack_Slot, Sf51_frames_Stack_SetSlot, Sf52_palaverref23_Stack_SetSlot, Sf53_palaverref23_Stack_Lies, Sf54_palaverref23_Stack_SetSender, Sf55_palaverref23_Stack_Switch, Sf56_frames_Stack_Unwind, Sf57_palaverref23_Stack_Unwind, Sf58_palaverref23_Stack_Alive, trivial⟩ trivial
theorem Ef16_palaverlaw23_does (x : (Option Addr × (Option Addr × (Int × (Int × (Int × (Int × (Int × (Int × Sl))))))))) : evF Cf16_palaverlaw23_does Try.f16 424 (.pair .ptr (.pair .ptr (.agg (.pair (.int .i64) (.pair (.int .i64) (.pair (.int .i64) (.pair (.int .i64) (.pair (.int .i64) (.pair (.int .i64) .sl))))))))) .bool Af16_palaverlaw23_does x = f16_palaverlaw23_does x.1 x.2.1 x.2.2 := by kernel_rfl
theorem Sf16_palaverlaw23_does : SoundF Try.prog 16 ⟨(.pair .ptr (.pair .ptr (.agg (.pair (.int .i64) (.pair (.int .i64) (.pair (.int .i64) (.pair (.int .i64) (.pair (.int .i64) (.pair (.int .i64) .sl))))))))), .bool, fun x => f16_palaverlaw23_does x.1 x.2.1 x.2.2⟩ :=
  soundF_of Cf16_palaverlaw23_does_ok Try.func16 (by kernel_rfl) (by kernel_rfl) Ef16_palaverlaw23_does
noncomputable def Cf17_palaverlaw23_looks : Ctx := mkC Try.prog tys zeros eqs [(16, ⟨(.pair .ptr (.pair .ptr (.agg (.pair (.int .i64) (.pair (.int .i64) (.pair (.int .i64) (.pair (.int .i64) (.pair (.int .i64) (.pair (.int .i64) .sl))))))))), .bool, fun x => f16_palaverlaw23_does x.1 x.2.1 x.2.2⟩)] []
/-- palaverpalaverlaw23.looks -/
noncomputable def f17_palaverlaw23_looks (x0 : Option Addr) (x1 : Option Addr) : M Bool :=
  loopM (fun (s1 : Int) =>
  bnd (drf x1) fun (p2 : Addr) =>
  bnd (ld .sl (Addr.add p2 4)) fun (v3 : Sl) =>
  cnd (cond (decide (s1 ≤ (IntKind.wrap .i64 ((v3.len : Int) + (1 : Int))))) (decide (s1 < (5000 : Int))) false) (
  loopM (fun (s4 : Int) =>
  cnd (decide (s4 ≤ (12 : Int))) (
  bnd (
  cnd (cond (s4 == (11 : Int)) true (s4 == (10 : Int))) (
  ret (Sum.inl ())) (
  bnd (f16_palaverlaw23_does x0 x1 (s4, (0 : Int), (0 : Int), s1, (0 : Int), (0 : Int), (Sl.mk none 0 0))) fun (r6 : Bool) =>
  cnd (!r6) (
  ret (Sum.inr (Sum.inr (Sum.inr false)))) (
  ret (Sum.inl ())))) (fun
  | .inl (s5 : Unit) =>
  ret (Sum.inl (IntKind.wrap .i64 (s4 + (1 : Int))))
  | .inr r9 => ret r9)) (
  bnd (
  loopM (fun (s10 : Int) =>
  cnd (decide (s10 < (20 : Int))) (
  bnd (f16_palaverlaw23_does x0 x1 ((10 : Int), (0 : Int), (0 : Int), s1, (0 : Int), s10, (Sl.mk none 0 0))) fun (r11 : Bool) =>
  cnd (!r11) (
  ret (Sum.inr (Sum.inr false))) (
  ret (Sum.inl (IntKind.wrap .i64 (s10 + (1 : Int)))))) (
  ret (Sum.inr (Sum.inl (IntKind.wrap .i64 (s1 + (1 : Int))))))) (0 : Int)) fun r12 =>
  ret (Sum.inr r12))) (8 : Int)) (
  bnd (
  bnd (f16_palaverlaw23_does x0 x1 ((18 : Int), (0 : Int), (0 : Int), (0 : Int), (0 : Int), (0 : Int), (Sl.mk none 0 0))) fun (r13 : Bool) =>
  ret r13) fun r14 =>
  ret (Sum.inr r14))) (0 : Int)
noncomputable def Af17_palaverlaw23_looks : Ann := (.two .nil (.two (.two .nil (.one (.loop [(5, (.int .i64))] [4, 6, 7, 8, 9, 10, 11, 12, 13, 14, 15, 16, 17, 18, 19, 20, 21, 22, 23, 24, 25, 26, 27, 28, 29, 30, 31, 32, 33, 34, 35, 36, 37, 38, 39, 40, 41, 42, 43, 44, 45, 46, 47, 48, 49, 50, 51, 52, 53] (.two (.two .nil (.two .nil .nil)) (.two (.one (.two (.two .nil (.one (.loop [(6, (.int .i64))] [4, 7, 24, 25, 26, 27, 28, 29, 30, 31, 32, 33, 34, 35, 36, 37, 38, 39, 40, 41] (.two (.two .nil (.two .nil .nil)) (.two (.join [] [4, 7, 28, 29, 30, 31, 32, 33, 34, 35, 36, 37, 38, 39, 40, 41] true (.one (.two (.two .nil (.two .nil .nil)) (.two .nil (.two .nil (.two (.two .nil .nil) .nil)))))) .nil))))) (.two .nil (.one (.loop [(8, (.int .i64))] [4, 9, 42, 43, 44, 45, 46, 47, 48, 49, 50, 51, 52, 53] (.two (.two .nil (.two .nil .nil)) (.two (.one (.two .nil (.two .nil (.two (.two .nil .nil) .nil)))) .nil))))))) .nil))))) (.two .nil .nil)))
theorem Cf17_palaverlaw23_looks_ok : Cf17_palaverlaw23_looks.Ok := mkC_ok mixed tysOk zerosOk eqsOk ⟨Sf16_palaverlaw23_does, trivial⟩ trivial
theorem Ef17_palaverlaw23_looks (x : (Option Addr × Option Addr)) : evF Cf17_palaverlaw23_looks Try.f17 58 (.pair .ptr .ptr) .bool Af17_palaverlaw23_looks x = f17_palaverlaw23_looks x.1 x.2 := by kernel_rfl
theorem Sf17_palaverlaw23_looks : SoundF Try.prog 17 ⟨(.pair .ptr .ptr), .bool, fun x => f17_palaverlaw23_looks x.1 x.2⟩ :=
  soundF_of Cf17_palaverlaw23_looks_ok Try.func17 (by kernel_rfl) (by kernel_rfl) Ef17_palaverlaw23_looks
noncomputable def Cf4_palaverlaw23_FramesDoes : Ctx := mkC Try.prog tys zeros eqs [(6, ⟨.unit, .bool, fun _ => f6_palaverlaw23_works⟩), (7, ⟨(.pair (.int .i64) (.pair (.int .i64) (.int .i64))), (.tup (.pair .ptr (.int .i64))), fun x => f7_frames_New x.1 x.2.1 x.2.2⟩), (14, ⟨.ptr, (.tup (.pair (.int .i64) (.int .i64))), fun x => f14_frames_Stack_Count x⟩), (15, ⟨(.pair (.int .i64) (.pair (.int .i64) (.int .i64))), (.tup (.pair .ptr (.int .i64))), fun x => f15_palaverref23_New x.1 x.2.1 x.2.2⟩), (16, ⟨(.pair .ptr (.pair .ptr (.agg (.pair (.int .i64) (.pair (.int .i64) (.pair (.int .i64) (.pair (.int .i64) (.pair (.int .i64) (.pair (.int .i64) .sl))))))))), .bool, fun x => f16_palaverlaw23_does x.1 x.2.1 x.2.2⟩), (17, ⟨(.pair .ptr .ptr), .bool, fun x => f17_palaverlaw23_looks x.1 x.2⟩), (18, ⟨.ptr, (.int .i64), fun x => f18_frames_Stack_This x⟩)] []
/-- palaverpalaverlaw23.FramesDoes -/
noncomputable def f4_palaverlaw23_FramesDoes (x0 : Int) (x1 : Int) (x2 : Int) (x3 : Sl) : M Bool :=
  bnd f6_palaverlaw23_works fun (r1 : Bool) =>
  bnd (f7_frames_New x0 x1 x2) fun (r2 : (Option Addr × Int)) =>
  bnd (f15_palaverref23_New x0 x1 x2) fun (r3 : (Option Addr × Int)) =>
  cnd (cond (r2.2 != r3.2) true (!((Option.isNone r2.1) == (Option.isNone r3.1)))) (
  ret false) (
  cnd (Option.isNone r2.1) (
  ret r1) (
  bnd (f7_frames_New (1 : Int) (16 : Int) (1 : Int)) fun (r4 : (Option Addr × Int)) =>
  cnd (cond (Option.isNone r4.1) true (r4.2 != (0 : Int))) (
  ret false) (
  loopM (fun (s5 : Int) =>
  cnd (decide (s5 < (x3.len : Int))) (
  bnd (ix 7 x3 s5) fun (p6 : Addr) =>
  bnd (ld .sl (Addr.add p6 6)) fun (v7 : Sl) =>
  cnd (decide ((v7.len : Int) > (1048576 : Int))) (
  ret (Sum.inr r1)) (
  bnd (ix 7 x3 s5) fun (p8 : Addr) =>
  bnd (ld (.agg (.pair (.int .i64) (.pair (.int .i64) (.pair (.int .i64) (.pair (.int .i64) (.pair (.int .i64) (.pair (.int .i64) .sl))))))) p8) fun (v9 : (Int × (Int × (Int × (Int × (Int × (Int × Sl))))))) =>
  bnd (f16_palaverlaw23_does r2.1 r3.1 v9) fun (r10 : Bool) =>
  cnd (!r10) (
  ret (Sum.inr false)) (
  ret (Sum.inl (IntKind.wrap .i64 (s5 + (1 : Int))))))) (
  bnd (
  bnd (f17_palaverlaw23_looks r2.1 r3.1) fun (r11 : Bool) =>
  bnd (f18_frames_Stack_This r4.1) fun (r12 : Int) =>
  bnd (f14_frames_Stack_Count r4.1) fun (r13 : (Int × Int)) =>
  ret (cond (cond (cond (cond r1 r11 false) (r12 == (0 : Int)) false) (r13.1 == (0 : Int)) false) (r13.2 == (0 : Int)) false)) fun r14 =>
  ret (Sum.inr r14))) (0 : Int))))
noncomputable def Af4_palaverlaw23_FramesDoes : Ann := (.two .nil (.two .nil (.two .nil (.two .nil (.two (.two .nil (.two (.two .nil .nil) .nil)) (.two (.two .nil (.two (.two .nil .nil) .nil)) (.two .nil (.two (.two .nil (.two (.two .nil .nil) .nil)) (.two (.two .nil (.one (.loop [(16, (.int .i64))] [8, 17, 60, 61, 62, 63, 64, 65, 66, 67, 68, 69, 70, 71, 72, 73, 74, 75, 76, 77, 78, 79, 80, 81, 82] (.two (.two .nil (.two .nil .nil)) (.two (.one (.two (.two .nil (.two (.two .nil .nil) .nil)) (.two .nil (.two .nil (.two (.two .nil .nil) .nil))))) .nil))))) (.two .nil (.two .nil (.two .nil (.two .nil .nil)))))))))))))
theorem Cf4_palaverlaw23_FramesDoes_ok : Cf4_palaverlaw23_FramesDoes.Ok := mkC_ok mixed tysOk zerosOk eqsOk ⟨Sf6_palaverlaw23_works, Sf7_frames_New, Sf14_frames_Stack_Count, Sf15_palaverref23_New, Sf16_palaverlaw23_does, Sf17_palaverlaw23_looks, Sf18_frames_Stack_This, trivial⟩ trivial
theorem Ef4_palaverlaw23_FramesDoes (x : (Int × (Int × (Int × Sl)))) : evF Cf4_palaverlaw23_FramesDoes Try.f4 109 (.pair (.int .i64) (.pair (.int .i64) (.pair (.int .i64) .sl))) .bool Af4_palaverlaw23_FramesDoes x = f4_palaverlaw23_FramesDoes x.1 x.2.1 x.2.2.1 x.2.2.2 := by kernel_rfl
theorem Sf4_palaverlaw23_FramesDoes : SoundF Try.prog 4 ⟨(.pair (.int .i64) (.pair (.int .i64) (.pair (.int .i64) .sl))), .bool, fun x => f4_palaverlaw23_FramesDoes x.1 x.2.1 x.2.2.1 x.2.2.2⟩ :=
  soundF_of Cf4_palaverlaw23_FramesDoes_ok Try.func4 (by kernel_rfl) (by kernel_rfl) Ef4_palaverlaw23_FramesDoes
noncomputable def Cf20_palaverlaw23_answer : Ctx := mkC Try.prog tys zeros eqs [(8, ⟨(.pair .ptr (.pair (.int .i64) (.pair .sl (.int .i64)))), (.int .i64), fun x => f8_frames_Stack_Call x.1 x.2.1 x.2.2.1 x.2.2.2⟩), (9, ⟨(.pair .ptr (.int .i64)), (.int .i64), fun x => f9_frames_Stack_Push x.1 x.2⟩), (10, ⟨(.pair .ptr (.pair (.int .i64) (.int .i64))), (.int .i64), fun x => f10_frames_Stack_Set x.1 x.2.1 x.2.2⟩), (11, ⟨(.pair .ptr (.int .i64)), (.int .i64), fun x => f11_frames_Stack_Return x.1 x.2⟩), (12, ⟨.ptr, (.tup (.pair (.int .i64) (.int .i64))), fun x => f12_frames_Stack_Pop x⟩), (13, ⟨(.pair .ptr (.int .i64)), (.tup (.pair (.int .i64) (.int .i64))), fun x => f13_frames_Stack_Get x.1 x.2⟩), (14, ⟨.ptr, (.tup (.pair (.int .i64) (.int .i64))), fun x => f14_frames_Stack_Count x⟩), (18, ⟨.ptr, (.int .i64), fun x => f18_frames_Stack_This x⟩), (24, ⟨(.pair .ptr (.int .i64)), (.tup (.pair (.int .i64) (.int .i64))), fun x => f24_frames_Stack_Sender x.1 x.2⟩), (25, ⟨(.pair .ptr (.int .i64)), (.tup (.pair (.int .i64) (.int .i64))), fun x => f25_frames_Stack_Method x.1 x.2⟩), (26, ⟨(.pair .ptr (.pair (.int .i64) (.int .i64))), (.int .i64), fun x => f26_frames_Stack_SetSender x.1 x.2.1 x.2.2⟩), (27, ⟨(.pair .ptr (.int .i64)), (.int .i64), fun x => f27_frames_Stack_Switch x.1 x.2⟩), (49, ⟨(.pair .ptr (.pair (.int .i64) (.int .i64))), (.tup (.pair (.int .i64) (.int .i64))), fun x => f49_frames_Stack_Slot x.1 x.2.1 x.2.2⟩), (51, ⟨(.pair .ptr (.pair (.int .i64) (.pair (.int .i64) (.int .i64)))), (.int .i64), fun x => f51_frames_Stack_SetSlot x.1 x.2.1 x.2.2.1 x.2.2.2⟩), (56, ⟨(.pair .ptr (.pair (.int .i64) (.int .i64))), (.int .i64), fun x => f56_frames_Stack_Unwind x.1 x.2.1 x.2.2⟩)] []
/-- palaverpalaverlaw23.answer -/
noncomputable def f20_palaverlaw23_answer (x0 : Option Addr) (x1 : (Int × (Int × (Int × (Int × (Int × (Int × Sl))))))) : M (Int × Int) :=
  bnd (newC 42 [.int .i64 x1.1, .int .i64 x1.2.1, .int .i64 x1.2.2.1, .int .i64 x1.2.2.2.1, .int .i64 x1.2.2.2.2.1, .int .i64 x1.2.2.2.2.2.1, .slice x1.2.2.2.2.2.2.a x1.2.2.2.2.2.2.len x1.2.2.2.2.2.2.cap]) fun (p1 : Addr) =>
  bnd (ld (.int .i64) (Addr.add p1 0)) fun (v2 : Int) =>
  cnd (v2 == (1 : Int)) (
  bnd (ld (.int .i64) (Addr.add p1 1)) fun (v3 : Int) =>
  bnd (ld .sl (Addr.add p1 6)) fun (v4 : Sl) =>
  bnd (ld (.int .i64) (Addr.add p1 5)) fun (v5 : Int) =>
  bnd (f8_frames_Stack_Call x0 v3 v4 v5) fun (r6 : Int) =>
  ret ((0 : Int), r6)) (
  cnd (v2 == (2 : Int)) (
  bnd (ld (.int .i64) (Addr.add p1 2)) fun (v7 : Int) =>
  bnd (f9_frames_Stack_Push x0 v7) fun (r8 : Int) =>
  ret ((0 : Int), r8)) (
  cnd (v2 == (3 : Int)) (
  bnd (f12_frames_Stack_Pop x0) fun (r9 : (Int × Int)) =>
  ret (r9.1, r9.2)) (
  cnd (v2 == (4 : Int)) (
  bnd (ld (.int .i64) (Addr.add p1 5)) fun (v10 : Int) =>
  bnd (f13_frames_Stack_Get x0 v10) fun (r11 : (Int × Int)) =>
  ret (r11.1, r11.2)) (
  cnd (v2 == (5 : Int)) (
  bnd (ld (.int .i64) (Addr.add p1 5)) fun (v12 : Int) =>
  bnd (ld (.int .i64) (Addr.add p1 2)) fun (v13 : Int) =>
  bnd (f10_frames_Stack_Set x0 v12 v13) fun (r14 : Int) =>
  ret ((0 : Int), r14)) (
  cnd (v2 == (6 : Int)) (
  bnd (ld (.int .i64) (Addr.add p1 2)) fun (v15 : Int) =>
  bnd (f11_frames_Stack_Return x0 v15) fun (r16 : Int) =>
  ret ((0 : Int), r16)) (
  cnd (v2 == (7 : Int)) (
  bnd (f18_frames_Stack_This x0) fun (r17 : Int) =>
  ret (r17, (0 : Int))) (
  cnd (v2 == (8 : Int)) (
  bnd (ld (.int .i64) (Addr.add p1 3)) fun (v18 : Int) =>
  bnd (f24_frames_Stack_Sender x0 v18) fun (r19 : (Int × Int)) =>
  ret (r19.1, r19.2)) (
  cnd (v2 == (9 : Int)) (
  bnd (ld (.int .i64) (Addr.add p1 3)) fun (v20 : Int) =>
  bnd (f25_frames_Stack_Method x0 v20) fun (r21 : (Int × Int)) =>
  ret (r21.1, r21.2)) (
  cnd (v2 == (10 : Int)) (
  bnd (ld (.int .i64) (Addr.add p1 3)) fun (v22 : Int) =>
  bnd (ld (.int .i64) (Addr.add p1 5)) fun (v23 : Int) =>
  bnd (f49_frames_Stack_Slot x0 v22 v23) fun (r24 : (Int × Int)) =>
  ret (r24.1, r24.2)) (
  cnd (v2 == (11 : Int)) (
  bnd (ld (.int .i64) (Addr.add p1 3)) fun (v25 : Int) =>
  bnd (ld (.int .i64) (Addr.add p1 5)) fun (v26 : Int) =>
  bnd (ld (.int .i64) (Addr.add p1 2)) fun (v27 : Int) =>
  bnd (f51_frames_Stack_SetSlot x0 v25 v26 v27) fun (r28 : Int) =>
  ret ((0 : Int), r28)) (
  cnd (v2 == (13 : Int)) (
  bnd (ld (.int .i64) (Addr.add p1 3)) fun (v29 : Int) =>
  bnd (ld (.int .i64) (Addr.add p1 4)) fun (v30 : Int) =>
  bnd (f26_frames_Stack_SetSender x0 v29 v30) fun (r31 : Int) =>
  ret ((0 : Int), r31)) (
  cnd (v2 == (14 : Int)) (
  bnd (ld (.int .i64) (Addr.add p1 3)) fun (v32 : Int) =>
  bnd (f27_frames_Stack_Switch x0 v32) fun (r33 : Int) =>
  ret ((0 : Int), r33)) (
  cnd (v2 == (15 : Int)) (
  bnd (ld (.int .i64) (Addr.add p1 3)) fun (v34 : Int) =>
  bnd (ld (.int .i64) (Addr.add p1 2)) fun (v35 : Int) =>
  bnd (f56_frames_Stack_Unwind x0 v34 v35) fun (r36 : Int) =>
  ret ((0 : Int), r36)) (
  bnd (f14_frames_Stack_Count x0) fun (r37 : (Int × Int)) =>
  ret (r37.1, (0 : Int))))))))))))))))
noncomputable def Af20_palaverlaw23_answer : Ann := (.two .nil (.two (.two .nil (.one (.two .nil (.two (.two .nil .nil) (.two .nil (.two (.two .nil .nil) (.two .nil (.two (.two .nil .nil) (.two .nil (.two (.two .nil .nil) (.two .nil (.two (.two .nil .nil) (.two .nil (.two (.two .nil .nil) (.two .nil (.two (.two .nil .nil) (.two .nil (.two (.two .nil (.two .nil .nil)) (.two .nil (.two (.two .nil .nil) (.two .nil (.two (.two .nil .nil) (.two .nil (.two (.two .nil .nil) (.two .nil (.two (.two .nil .nil) (.two .nil (.two (.two .nil .nil) (.two .nil (.two (.two .nil .nil) .nil)))))))))))))))))))))))))))))) (.two .nil (.two .nil .nil))))
theorem Cf20_palaverlaw23_answer_ok : Cf20_palaverlaw23_answer.Ok := mkC_ok mixed tysOk zerosOk eqsOk ⟨Sf8_frames_Stack_Call, Sf9_frames_Stack_Push, Sf10_frames_Stack_Set, Sf11_frames_Stack_Return, Sf12_frames_Stack_Pop, Sf13_frames_Stack_Get, Sf14_frames_Stack_Count, Sf18_frames_Stack_This, Sf24_frames_Stack_Sender, Sf25_frames_Stack_Method, Sf26_frames_Stack_SetSender, Sf27_frames_Stack_Switch, Sf49_frames_Stack_Slot, Sf51_frames_Stack_SetSlot, Sf56_frames_Stack_Unwind, trivial⟩ trivial
theorem Ef20_palaverlaw23_answer (x : (Option Addr × (Int × (Int × (Int × (Int × (Int × (Int × Sl)))))))) : evF Cf20_palaverlaw23_answer Try.f20 127 (.pair .ptr (.agg (.pair (.int .i64) (.pair (.int .i64) (.pair (.int .i64) (.pair (.int .i64) (.pair (.int .i64) (.pair (.int .i64) .sl)))))))) (.tup (.pair (.int .i64) (.int .i64))) Af20_palaverlaw23_answer x = f20_palaverlaw23_answer x.1 x.2 := by kernel_rfl
theorem Sf20_palaverlaw23_answer : SoundF Try.prog 20 ⟨(.pair .ptr (.agg (.pair (.int .i64) (.pair (.int .i64) (.pair (.int .i64) (.pair (.int .i64) (.pair (.int .i64) (.pair (.int .i64) .sl)))))))), (.tup (.pair (.int .i64) (.int .i64))), fun x => f20_palaverlaw23_answer x.1 x.2⟩ :=
  soundF_of Cf20_palaverlaw23_answer_ok Try.func20 (by kernel_rfl) (by kernel_rfl) Ef20_palaverlaw23_answer
noncomputable def Cf5_palaverlaw23_FramesUnseen : Ctx := mkC Try.prog tys zeros eqs [(6, ⟨.unit, .bool, fun _ => f6_palaverlaw23_works⟩), (7, ⟨(.pair (.int .i64) (.pair (.int .i64) (.int .i64))), (.tup (.pair .ptr (.int .i64))), fun x => f7_frames_New x.1 x.2.1 x.2.2⟩), (14, ⟨.ptr, (.tup (.pair (.int .i64) (.int .i64))), fun x => f14_frames_Stack_Count x⟩), (19, ⟨.ptr, (.tup .unit), fun x => f19_frames_Stack_Flush x⟩), (20, ⟨(.pair .ptr (.agg (.pair (.int .i64) (.pair (.int .i64) (.pair (.int .i64) (.pair (.int .i64) (.pair (.int .i64) (.pair (.int .i64) .sl)))))))), (.tup (.pair (.int .i64) (.int .i64))), fun x => f20_palaverlaw23_answer x.1 x.2⟩), (21, ⟨(.pair .ptr (.int .i64)), (.tup (.pair .sl (.int .i64))), fun x => f21_frames_Stack_Lies x.1 x.2⟩), (22, ⟨(.pair .sl .sl), .bool, fun x => f22_palaverlaw23_same x.1 x.2⟩), (23, ⟨(.pair .ptr (.int .i64)), .bool, fun x => f23_frames_Stack_Alive x.1 x.2⟩)] []
/-- palaverpalaverlaw23.FramesUnseen -/
noncomputable def f5_palaverlaw23_FramesUnseen (x0 : Int) (x1 : Int) (x2 : Int) (x3 : Sl) (x4 : Sl) : M Bool :=
  bnd f6_palaverlaw23_works fun (r1 : Bool) =>
  bnd (f7_frames_New x0 (40 : Int) x2) fun (r2 : (Option Addr × Int)) =>
  bnd (f7_frames_New x1 (40 : Int) x2) fun (r3 : (Option Addr × Int)) =>
  cnd (cond (cond (cond (r2.2 != (0 : Int)) true (r3.2 != (0 : Int))) true (Option.isNone r2.1)) true (Option.isNone r3.1)) (
  ret (cond r1 (cond (r2.2 != (0 : Int)) true (r3.2 != (0 : Int))) false)) (
  loopM (fun (s4 : Int) =>
  cnd (decide (s4 < (x3.len : Int))) (
  bnd (ix 7 x3 s4) fun (p5 : Addr) =>
  bnd (ld .sl (Addr.add p5 6)) fun (v6 : Sl) =>
  cnd (decide ((v6.len : Int) > (1048576 : Int))) (
  ret (Sum.inr r1)) (
  bnd (
  cnd (decide (s4 < (x4.len : Int))) (
  bnd (ix 1 x4 s4) fun (p7 : Addr) =>
  bnd (ld .bool p7) fun (v8 : Bool) =>
  ret v8) (
  ret false)) fun (b9 : Bool) =>
  bnd (
  cnd b9 (
  bnd (f19_frames_Stack_Flush r3.1) fun (r11 : Unit) =>
  ret ()) (
  ret ())) fun (s10 : Unit) =>
  bnd (ix 7 x3 s4) fun (p12 : Addr) =>
  bnd (ld (.agg (.pair (.int .i64) (.pair (.int .i64) (.pair (.int .i64) (.pair (.int .i64) (.pair (.int .i64) (.pair (.int .i64) .sl))))))) p12) fun (v13 : (Int × (Int × (Int × (Int × (Int × (Int × Sl))))))) =>
  bnd (f20_palaverlaw23_answer r2.1 v13) fun (r14 : (Int × Int)) =>
  bnd (ix 7 x3 s4) fun (p15 : Addr) =>
  bnd (ld (.agg (.pair (.int .i64) (.pair (.int .i64) (.pair (.int .i64) (.pair (.int .i64) (.pair (.int .i64) (.pair (.int .i64) .sl))))))) p15) fun (v16 : (Int × (Int × (Int × (Int × (Int × (Int × Sl))))))) =>
  bnd (f20_palaverlaw23_answer r3.1 v16) fun (r17 : (Int × Int)) =>
  cnd (cond (r14.1 != r17.1) true (r14.2 != r17.2)) (
  ret (Sum.inr false)) (
  ret (Sum.inl (IntKind.wrap .i64 (s4 + (1 : Int))))))) (
  bnd (
  bnd (f14_frames_Stack_Count r2.1) fun (r18 : (Int × Int)) =>
  loopM (fun (s19 : Int) =>
  cnd (decide (s19 ≤ (300 : Int))) (
  bnd (f21_frames_Stack_Lies r2.1 s19) fun (r20 : (Sl × Int)) =>
  bnd (f21_frames_Stack_Lies r3.1 s19) fun (r21 : (Sl × Int)) =>
  bnd (f22_palaverlaw23_same r20.1 r21.1) fun (r22 : Bool) =>
  bnd (
  cnd (cond (!r22) true (r20.2 != r21.2)) (
  ret true) (
  bnd (f23_frames_Stack_Alive r2.1 s19) fun (r23 : Bool) =>
  bnd (f23_frames_Stack_Alive r3.1 s19) fun (r24 : Bool) =>
  ret (!(r23 == r24)))) fun (b25 : Bool) =>
  cnd b25 (
  ret (Sum.inr false)) (
  ret (Sum.inl (IntKind.wrap .i64 (s19 + (1 : Int)))))) (
  bnd (
  bnd (f14_frames_Stack_Count r3.1) fun (r26 : (Int × Int)) =>
  ret (cond r1 (r18.1 == r26.1) false)) fun r27 =>
  ret (Sum.inr r27))) (1 : Int)) fun r28 =>
  ret (Sum.inr r28))) (0 : Int))
noncomputable def Af5_palaverlaw23_FramesUnseen : Ann := (.two .nil (.two .nil (.two .nil (.two .nil (.two (.two .nil (.two (.two .nil .nil) .nil)) (.two (.two .nil (.one (.loop [(16, (.int .i64))] [10, 17, 18, 19, 20, 67, 68, 69, 70, 71, 72, 73, 74, 75, 76, 77, 78, 79, 80, 81, 82, 83, 84, 85, 86, 87, 88, 89, 90, 91, 92, 93, 94, 95, 96, 97, 98, 99, 100, 101, 102, 103, 104, 105, 106, 107, 108, 109, 110, 111, 112, 113, 114, 115, 116, 117, 118] (.two (.two .nil (.two .nil .nil)) (.two (.one (.two (.two .nil (.two (.two .nil .nil) .nil)) (.two (.two .nil (.join [] [91, 92] false (.two .nil .nil))) (.two .nil (.two .nil (.two .nil (.two (.two .nil .nil) .nil))))))) .nil))))) (.two .nil (.two (.two .nil (.one (.loop [(23, (.int .i64))] [10, 24, 25, 26, 27, 28, 124, 125, 126, 127, 128, 129, 130, 131, 132, 133, 134, 135, 136, 137, 138, 139, 140, 141, 142, 143, 144, 145, 146, 147, 148, 149, 150, 151, 152, 153, 154, 155, 156, 157, 158] (.two (.two .nil (.two .nil .nil)) (.two (.one (.two .nil (.two .nil (.two .nil (.two .nil (.two (.two .nil .nil) .nil)))))) .nil))))) (.two .nil (.two .nil .nil))))))))))
theorem Cf5_palaverlaw23_FramesUnseen_ok : Cf5_palaverlaw23_FramesUnseen.Ok := mkC_ok mixed tysOk zerosOk eqsOk ⟨Sf6_palaverlaw23_works, Sf7_frames_New, Sf14_frames_Stack_Count, Sf19_frames_Stack_Flush, Sf20_palaverlaw23_answer, Sf21_frames_Stack_Lies, Sf22_palaverlaw23_same, Sf23_frames_Stack_Alive, trivial⟩ trivial
theorem Ef5_palaverlaw23_FramesUnseen (x : (Int × (Int × (Int × (Sl × Sl))))) : evF Cf5_palaverlaw23_FramesUnseen Try.f5 170 (.pair (.int .i64) (.pair (.int .i64) (.pair (.int .i64) (.pair .sl .sl)))) .bool Af5_palaverlaw23_FramesUnseen x = f5_palaverlaw23_FramesUnseen x.1 x.2.1 x.2.2.1 x.2.2.2.1 x.2.2.2.2 := by kernel_rfl
theorem Sf5_palaverlaw23_FramesUnseen : SoundF Try.prog 5 ⟨(.pair (.int .i64) (.pair (.int .i64) (.pair (.int .i64) (.pair .sl .sl)))), .bool, fun x => f5_palaverlaw23_FramesUnseen x.1 x.2.1 x.2.2.1 x.2.2.2.1 x.2.2.2.2⟩ :=
  soundF_of Cf5_palaverlaw23_FramesUnseen_ok Try.func5 (by kernel_rfl) (by kernel_rfl) Ef5_palaverlaw23_FramesUnseen
end Go.Proofs.Ytckfidopkajpaaa
