/-
  The functions of this seat, lifted by program: each is shown to do what its Lean text says. No condition.
-/
import Derived.Test.YtaanmpphkbbllaaProg
import Derived.Test.YtaanmpphkbbllaaShI
import Derived.KernelRfl
namespace Go.Proofs.Ytaanmpphkbbllaa
open Go.Sh
set_option maxRecDepth 100000
noncomputable def tys : List (Nat × Ty) := [(2, (.int .i64)),
  (3, (.int .i64)),
  (4, .bool),
  (22, (.int .u8)),
  (24, (.agg (.pair (.int .i64) (.pair (.int .u8) (.pair (.int .i64) (.pair (.int .i64) (.pair (.int .i64) (.pair (.int .i64) (.pair .bool .bool))))))))),
  (25, (.int .u64)),
  (27, (.int .i64)),
  (33, (.int .u64)),
  (38, (.int .u8))]
theorem tysOk : AllN (fun T t => tyFitsB Try.prog T t = true) tys :=
  ⟨(by kernel_rfl : tyFitsB Try.prog 2 (.int .i64) = true),
   (by kernel_rfl : tyFitsB Try.prog 3 (.int .i64) = true),
   (by kernel_rfl : tyFitsB Try.prog 4 .bool = true),
   (by kernel_rfl : tyFitsB Try.prog 22 (.int .u8) = true),
   (by kernel_rfl : tyFitsB Try.prog 24 (.agg (.pair (.int .i64) (.pair (.int .u8) (.pair (.int .i64) (.pair (.int .i64) (.pair (.int .i64) (.pair (.int .i64) (.pair .bool .bool)))))))) = true),
   (by kernel_rfl : tyFitsB Try.prog 25 (.int .u64) = true),
   (by kernel_rfl : tyFitsB Try.prog 27 (.int .i64) = true),
   (by kernel_rfl : tyFitsB Try.prog 33 (.int .u64) = true),
   (by kernel_rfl : tyFitsB Try.prog 38 (.int .u8) = true), trivial⟩
noncomputable def zeros : List (Nat × TV) := [(24, ⟨(.agg (.pair (.int .i64) (.pair (.int .u8) (.pair (.int .i64) (.pair (.int .i64) (.pair (.int .i64) (.pair (.int .i64) (.pair .bool .bool)))))))), ((0 : Int), (0 : Int), (0 : Int), (0 : Int), (0 : Int), (0 : Int), false, false)⟩)]
theorem zerosOk : AllN (fun T (z : TV) => ∃ i, Try.prog.info? T = some i ∧ i.zero = some z.v) zeros :=
  ⟨⟨_, (by kernel_rfl : Try.prog.info? 24 = some Try.t24), rfl⟩, trivial⟩
noncomputable def eqs : List (Nat × Ty) := [(24, (.pair (.int .i64) (.pair (.int .u8) (.pair (.int .i64) (.pair (.int .i64) (.pair (.int .i64) (.pair (.int .i64) (.pair .bool .bool))))))))]
theorem eqsOk : AllN (EqOk Try.prog) eqs := ⟨eqOk_of (by kernel_rfl), trivial⟩
theorem mixed : Try.prog.follows .mixedOrders = true := by kernel_rfl
noncomputable def Gf13_words_Small (x0 : Int) : (Int × Bool) :=
  (cond (cond (decide (x0 < (-1152921504606846976 : Int))) true (decide (x0 > (1152921504606846975 : Int)))) ((0 : Int), false) ((bOr .u64 (shlI .u64 (IntKind.wrap .u64 x0) 3) (1 : Int)), true))
/-- palaverwords.Small -/
noncomputable def f13_words_Small (x0 : Int) : M (Int × Bool) :=
  cnd (cond (decide (x0 < (-1152921504606846976 : Int))) true (decide (x0 > (1152921504606846975 : Int)))) (
  ret ((0 : Int), false)) (
  ret ((bOr .u64 (shlI .u64 (IntKind.wrap .u64 x0) 3) (1 : Int)), true))
noncomputable def Af13_words_Small : Ann := (.two .nil (.two (.two .nil (.two (.two .nil .nil) .nil)) (.two .nil .nil)))
noncomputable def Cf13_words_Small : Ctx := mkC Try.prog tys zeros eqs [] []
theorem Cf13_words_Small_ok : Cf13_words_Small.Ok := mkC_ok mixed tysOk zerosOk eqsOk trivial trivial
theorem Ef13_words_Small (x : Int) : evF Cf13_words_Small Try.f13 14 (.int .i64) (.tup (.pair (.int .u64) .bool)) Af13_words_Small x = f13_words_Small x := by kernel_rfl
theorem Sf13_words_Small : SoundF Try.prog 13 ⟨(.int .i64), (.tup (.pair (.int .u64) .bool)), fun x => f13_words_Small x⟩ :=
  soundF_of Cf13_words_Small_ok Try.func13 (by kernel_rfl) (by kernel_rfl) Ef13_words_Small
theorem Hf13_words_Small (x0 : Int) : f13_words_Small x0 = ret (Gf13_words_Small x0) := by
  simp only [f13_words_Small, Gf13_words_Small, bnd_ret, cnd_ret, bnd_cnd]
theorem Pf13_words_Small : SoundP Try.prog 13 ⟨(.int .i64), (.tup (.pair (.int .u64) .bool)), fun x => Gf13_words_Small x⟩ := soundP_of Sf13_words_Small fun x => Hf13_words_Small x
noncomputable def Gf32_words_within (x0 : Int) (x1 : Int) (x2 : Int) (x3 : Int) : (Int × Bool) :=
  (cond (cond (decide (x0 < x1)) true (decide (x0 > x2))) ((0 : Int), false) ((bOr .u64 (shlI .u64 (IntKind.wrap .u64 x0) 3) x3), true))
/-- palaverwords.within -/
noncomputable def f32_words_within (x0 : Int) (x1 : Int) (x2 : Int) (x3 : Int) : M (Int × Bool) :=
  cnd (cond (decide (x0 < x1)) true (decide (x0 > x2))) (
  ret ((0 : Int), false)) (
  ret ((bOr .u64 (shlI .u64 (IntKind.wrap .u64 x0) 3) x3), true))
noncomputable def Af32_words_within : Ann := (.two .nil (.two (.two .nil (.two (.two .nil .nil) .nil)) (.two .nil .nil)))
noncomputable def Cf32_words_within : Ctx := mkC Try.prog tys zeros eqs [] []
theorem Cf32_words_within_ok : Cf32_words_within.Ok := mkC_ok mixed tysOk zerosOk eqsOk trivial trivial
theorem Ef32_words_within (x : (Int × (Int × (Int × Int)))) : evF Cf32_words_within Try.f32 23 (.pair (.int .i64) (.pair (.int .i64) (.pair (.int .i64) (.int .u64)))) (.tup (.pair (.int .u64) .bool)) Af32_words_within x = f32_words_within x.1 x.2.1 x.2.2.1 x.2.2.2 := by kernel_rfl
theorem Sf32_words_within : SoundF Try.prog 32 ⟨(.pair (.int .i64) (.pair (.int .i64) (.pair (.int .i64) (.int .u64)))), (.tup (.pair (.int .u64) .bool)), fun x => f32_words_within x.1 x.2.1 x.2.2.1 x.2.2.2⟩ :=
  soundF_of Cf32_words_within_ok Try.func32 (by kernel_rfl) (by kernel_rfl) Ef32_words_within
theorem Hf32_words_within (x0 : Int) (x1 : Int) (x2 : Int) (x3 : Int) : f32_words_within x0 x1 x2 x3 = ret (Gf32_words_within x0 x1 x2 x3) := by
  simp only [f32_words_within, Gf32_words_within, bnd_ret, cnd_ret, bnd_cnd]
theorem Pf32_words_within : SoundP Try.prog 32 ⟨(.pair (.int .i64) (.pair (.int .i64) (.pair (.int .i64) (.int .u64)))), (.tup (.pair (.int .u64) .bool)), fun x => Gf32_words_within x.1 x.2.1 x.2.2.1 x.2.2.2⟩ := soundP_of Sf32_words_within fun x => Hf32_words_within x.1 x.2.1 x.2.2.1 x.2.2.2
noncomputable def Gf15_words_Char (x0 : Int) : (Int × Bool) :=
  ((Gf32_words_within x0 (0 : Int) (2097151 : Int) (2 : Int)).1, (Gf32_words_within x0 (0 : Int) (2097151 : Int) (2 : Int)).2)
/-- palaverwords.Char -/
noncomputable def f15_words_Char (x0 : Int) : M (Int × Bool) :=
  ret ((Gf32_words_within x0 (0 : Int) (2097151 : Int) (2 : Int)).1, (Gf32_words_within x0 (0 : Int) (2097151 : Int) (2 : Int)).2)
noncomputable def Af15_words_Char : Ann := (.two .nil (.two .nil .nil))
noncomputable def Cf15_words_Char : Ctx := mkC Try.prog tys zeros eqs [] [(32, ⟨(.pair (.int .i64) (.pair (.int .i64) (.pair (.int .i64) (.int .u64)))), (.tup (.pair (.int .u64) .bool)), fun x => Gf32_words_within x.1 x.2.1 x.2.2.1 x.2.2.2⟩)]
theorem Cf15_words_Char_ok : Cf15_words_Char.Ok := mkC_ok mixed tysOk zerosOk eqsOk trivial ⟨Pf32_words_within, trivial⟩
theorem Ef15_words_Char (x : Int) : evF Cf15_words_Char Try.f15 8 (.int .i64) (.tup (.pair (.int .u64) .bool)) Af15_words_Char x = f15_words_Char x := by kernel_rfl
theorem Sf15_words_Char : SoundF Try.prog 15 ⟨(.int .i64), (.tup (.pair (.int .u64) .bool)), fun x => f15_words_Char x⟩ :=
  soundF_of Cf15_words_Char_ok Try.func15 (by kernel_rfl) (by kernel_rfl) Ef15_words_Char
theorem Hf15_words_Char (x0 : Int) : f15_words_Char x0 = ret (Gf15_words_Char x0) := by
  simp only [f15_words_Char, Gf15_words_Char, bnd_ret, cnd_ret, bnd_cnd]
theorem Pf15_words_Char : SoundP Try.prog 15 ⟨(.int .i64), (.tup (.pair (.int .u64) .bool)), fun x => Gf15_words_Char x⟩ := soundP_of Sf15_words_Char fun x => Hf15_words_Char x
noncomputable def Gf17_words_Object (x0 : Int) : (Int × Bool) :=
  ((Gf32_words_within x0 (1 : Int) (268435455 : Int) (0 : Int)).1, (Gf32_words_within x0 (1 : Int) (268435455 : Int) (0 : Int)).2)
/-- palaverwords.Object -/
noncomputable def f17_words_Object (x0 : Int) : M (Int × Bool) :=
  ret ((Gf32_words_within x0 (1 : Int) (268435455 : Int) (0 : Int)).1, (Gf32_words_within x0 (1 : Int) (268435455 : Int) (0 : Int)).2)
noncomputable def Af17_words_Object : Ann := (.two .nil (.two .nil .nil))
noncomputable def Cf17_words_Object : Ctx := mkC Try.prog tys zeros eqs [] [(32, ⟨(.pair (.int .i64) (.pair (.int .i64) (.pair (.int .i64) (.int .u64)))), (.tup (.pair (.int .u64) .bool)), fun x => Gf32_words_within x.1 x.2.1 x.2.2.1 x.2.2.2⟩)]
theorem Cf17_words_Object_ok : Cf17_words_Object.Ok := mkC_ok mixed tysOk zerosOk eqsOk trivial ⟨Pf32_words_within, trivial⟩
theorem Ef17_words_Object (x : Int) : evF Cf17_words_Object Try.f17 8 (.int .i64) (.tup (.pair (.int .u64) .bool)) Af17_words_Object x = f17_words_Object x := by kernel_rfl
theorem Sf17_words_Object : SoundF Try.prog 17 ⟨(.int .i64), (.tup (.pair (.int .u64) .bool)), fun x => f17_words_Object x⟩ :=
  soundF_of Cf17_words_Object_ok Try.func17 (by kernel_rfl) (by kernel_rfl) Ef17_words_Object
theorem Hf17_words_Object (x0 : Int) : f17_words_Object x0 = ret (Gf17_words_Object x0) := by
  simp only [f17_words_Object, Gf17_words_Object, bnd_ret, cnd_ret, bnd_cnd]
theorem Pf17_words_Object : SoundP Try.prog 17 ⟨(.int .i64), (.tup (.pair (.int .u64) .bool)), fun x => Gf17_words_Object x⟩ := soundP_of Sf17_words_Object fun x => Hf17_words_Object x
noncomputable def Gf34_words_in (x0 : Int) (x1 : Int) : Bool :=
  (cond (decide (x0 ≥ (0 : Int))) (decide (x0 ≤ x1)) false)
/-- palaverwords.in -/
noncomputable def f34_words_in (x0 : Int) (x1 : Int) : M Bool :=
  ret (cond (decide (x0 ≥ (0 : Int))) (decide (x0 ≤ x1)) false)
noncomputable def Af34_words_in : Ann := (.two .nil (.two .nil .nil))
noncomputable def Cf34_words_in : Ctx := mkC Try.prog tys zeros eqs [] []
theorem Cf34_words_in_ok : Cf34_words_in.Ok := mkC_ok mixed tysOk zerosOk eqsOk trivial trivial
theorem Ef34_words_in (x : (Int × Int)) : evF Cf34_words_in Try.f34 12 (.pair (.int .i64) (.int .i64)) .bool Af34_words_in x = f34_words_in x.1 x.2 := by kernel_rfl
theorem Sf34_words_in : SoundF Try.prog 34 ⟨(.pair (.int .i64) (.int .i64)), .bool, fun x => f34_words_in x.1 x.2⟩ :=
  soundF_of Cf34_words_in_ok Try.func34 (by kernel_rfl) (by kernel_rfl) Ef34_words_in
theorem Hf34_words_in (x0 : Int) (x1 : Int) : f34_words_in x0 x1 = ret (Gf34_words_in x0 x1) := by
  simp only [f34_words_in, Gf34_words_in, bnd_ret, cnd_ret, bnd_cnd]
theorem Pf34_words_in : SoundP Try.prog 34 ⟨(.pair (.int .i64) (.int .i64)), .bool, fun x => Gf34_words_in x.1 x.2⟩ := soundP_of Sf34_words_in fun x => Hf34_words_in x.1 x.2
/-- palaverwords.may -/
noncomputable def f27_words_may (x0 : (Int × (Int × (Int × (Int × (Int × (Int × (Bool × Bool)))))))) : M Bool :=
  bnd (newC 24 [.int .i64 x0.1, .int .u8 x0.2.1, .int .i64 x0.2.2.1, .int .i64 x0.2.2.2.1, .int .i64 x0.2.2.2.2.1, .int .i64 x0.2.2.2.2.2.1, .bool x0.2.2.2.2.2.2.1, .bool x0.2.2.2.2.2.2.2]) fun (p1 : Addr) =>
  bnd (ld (.int .i64) (Addr.add p1 0)) fun (v2 : Int) =>
  bnd (
  cnd (!(Gf34_words_in v2 (4095 : Int))) (
  ret true) (
  bnd (ld (.int .i64) (Addr.add p1 3)) fun (v3 : Int) =>
  ret (!(Gf34_words_in v3 (4194303 : Int))))) fun (b4 : Bool) =>
  bnd (
  cnd b4 (
  ret true) (
  bnd (ld (.int .i64) (Addr.add p1 4)) fun (v5 : Int) =>
  ret (!(Gf34_words_in v5 (15 : Int))))) fun (b6 : Bool) =>
  bnd (
  cnd b6 (
  ret true) (
  bnd (ld (.int .i64) (Addr.add p1 5)) fun (v7 : Int) =>
  ret (!(Gf34_words_in v7 (65536 : Int))))) fun (b8 : Bool) =>
  bnd (
  cnd b8 (
  ret true) (
  bnd (ld (.int .i64) (Addr.add p1 2)) fun (v9 : Int) =>
  ret (!(Gf34_words_in v9 (7 : Int))))) fun (b10 : Bool) =>
  cnd b10 (
  ret false) (
  bnd (ld (.int .u8) (Addr.add p1 1)) fun (v11 : Int) =>
  bnd (
  bnd (
  cnd (v11 == (1 : Int)) (
  ret (v11 == (1 : Int))) (
  bnd (
  cnd (v11 == (2 : Int)) (
  ret (v11 == (2 : Int))) (
  ret (v11 == (4 : Int)))) fun (s14 : Bool) =>
  ret s14)) fun (s13 : Bool) =>
  cnd s13 (
  bnd (ld (.int .i64) (Addr.add p1 2)) fun (v15 : Int) =>
  ret (Sum.inr (v15 == (0 : Int)))) (
  cnd (v11 == (3 : Int)) (
  bnd (ld (.int .i64) (Addr.add p1 2)) fun (v17 : Int) =>
  bnd (
  cnd (v17 == (0 : Int)) (
  bnd (ld (.int .i64) (Addr.add p1 5)) fun (v18 : Int) =>
  ret (decide (v18 > (0 : Int)))) (
  ret false)) fun (b19 : Bool) =>
  ret (Sum.inr b19)) (
  cnd (v11 == (6 : Int)) (
  bnd (ld (.int .i64) (Addr.add p1 5)) fun (v21 : Int) =>
  cnd (v21 == (0 : Int)) (
  ret (Sum.inr false)) (
  ret (Sum.inl (IntKind.wrap .i64 ((0 : Int) + (1 : Int)))))) (
  cnd (v11 == (5 : Int)) (
  ret (Sum.inl (0 : Int))) (
  ret (Sum.inr false)))))) (fun
  | .inl (s12 : Int) =>
  bnd (ld (.int .i64) (Addr.add p1 2)) fun (v25 : Int) =>
  bnd (
  cnd (v25 == (0 : Int)) (
  ret true) (
  bnd (ld (.int .i64) (Addr.add p1 5)) fun (v26 : Int) =>
  ret (decide (v26 > s12)))) fun (b27 : Bool) =>
  ret b27
  | .inr r28 => ret r28))
noncomputable def Af27_words_may : Ann := (.two .nil (.two (.two .nil (.two (.two .nil .nil) .nil)) (.two .nil (.two (.two .nil (.one (.two (.join [(3, (.int .i64))] [2, 34, 35, 36, 37, 38, 39, 40, 41, 42, 43, 44, 45, 46, 47, 48, 49, 50, 51, 52, 53, 54, 55, 56, 57, 58, 59] true (.one (.two (.one (.two (.one (.two (.one (.two (.two (.two (.two .nil (.join [(34, .bool)] [36, 37] false (.two .nil (.two .nil (.join [(34, .bool)] [37] false (.two .nil .nil)))))) (.two .nil .nil)) (.two (.two .nil (.two .nil .nil)) (.two (.two .nil (.two .nil .nil)) (.two .nil (.two .nil .nil))))) .nil)) (.two (.two .nil .nil) .nil))) (.two (.two .nil .nil) .nil))) (.two (.two .nil (.two (.two .nil .nil) .nil)) .nil)))) (.two (.two .nil .nil) .nil)))) (.two .nil .nil)))))
noncomputable def Cf27_words_may : Ctx := mkC Try.prog tys zeros eqs [] [(34, ⟨(.pair (.int .i64) (.int .i64)), .bool, fun x => Gf34_words_in x.1 x.2⟩)]
theorem Cf27_words_may_ok : Cf27_words_may.Ok := mkC_ok mixed tysOk zerosOk eqsOk trivial ⟨Pf34_words_in, trivial⟩
theorem Ef27_words_may (x : (Int × (Int × (Int × (Int × (Int × (Int × (Bool × Bool)))))))) : evF Cf27_words_may Try.f27 69 (.agg (.pair (.int .i64) (.pair (.int .u8) (.pair (.int .i64) (.pair (.int .i64) (.pair (.int .i64) (.pair (.int .i64) (.pair .bool .bool)))))))) .bool Af27_words_may x = f27_words_may x := by kernel_rfl
theorem Sf27_words_may : SoundF Try.prog 27 ⟨(.agg (.pair (.int .i64) (.pair (.int .u8) (.pair (.int .i64) (.pair (.int .i64) (.pair (.int .i64) (.pair (.int .i64) (.pair .bool .bool)))))))), .bool, fun x => f27_words_may x⟩ :=
  soundF_of Cf27_words_may_ok Try.func27 (by kernel_rfl) (by kernel_rfl) Ef27_words_may
/-- palaverwords.bit -/
noncomputable def f28_words_bit (x0 : Bool) (x1 : Int) : M Int :=
  cnd x0 (
  bnd (cnt x1) fun (c1 : Nat) =>
  ret (shlI .u64 (1 : Int) c1)) (
  ret (0 : Int))
noncomputable def Af28_words_bit : Ann := (.two .nil (.two (.two .nil (.two (.two .nil .nil) .nil)) (.two .nil .nil)))
noncomputable def Cf28_words_bit : Ctx := mkC Try.prog tys zeros eqs [] []
theorem Cf28_words_bit_ok : Cf28_words_bit.Ok := mkC_ok mixed tysOk zerosOk eqsOk trivial trivial
theorem Ef28_words_bit (x : (Bool × Int)) : evF Cf28_words_bit Try.f28 8 (.pair .bool (.int .i64)) (.int .u64) Af28_words_bit x = f28_words_bit x.1 x.2 := by kernel_rfl
theorem Sf28_words_bit : SoundF Try.prog 28 ⟨(.pair .bool (.int .i64)), (.int .u64), fun x => f28_words_bit x.1 x.2⟩ :=
  soundF_of Cf28_words_bit_ok Try.func28 (by kernel_rfl) (by kernel_rfl) Ef28_words_bit
/-- palaverwords.Pack -/
noncomputable def f9_words_Pack (x0 : (Int × (Int × (Int × (Int × (Int × (Int × (Bool × Bool)))))))) : M (Int × (Int × Int)) :=
  bnd (newC 24 [.int .i64 x0.1, .int .u8 x0.2.1, .int .i64 x0.2.2.1, .int .i64 x0.2.2.2.1, .int .i64 x0.2.2.2.2.1, .int .i64 x0.2.2.2.2.2.1, .bool x0.2.2.2.2.2.2.1, .bool x0.2.2.2.2.2.2.2]) fun (p1 : Addr) =>
  bnd (ld (.agg (.pair (.int .i64) (.pair (.int .u8) (.pair (.int .i64) (.pair (.int .i64) (.pair (.int .i64) (.pair (.int .i64) (.pair .bool .bool)))))))) p1) fun (v2 : (Int × (Int × (Int × (Int × (Int × (Int × (Bool × Bool)))))))) =>
  bnd (f27_words_may v2) fun (r3 : Bool) =>
  cnd (!r3) (
  ret ((0 : Int), (0 : Int), (10 : Int))) (
  bnd (ld (.int .i64) (Addr.add p1 0)) fun (v4 : Int) =>
  bnd (ld (.int .u8) (Addr.add p1 1)) fun (v5 : Int) =>
  bnd (ld (.int .i64) (Addr.add p1 2)) fun (v6 : Int) =>
  bnd (ld (.int .i64) (Addr.add p1 3)) fun (v7 : Int) =>
  bnd (ld (.int .i64) (Addr.add p1 4)) fun (v8 : Int) =>
  bnd drawM fun _ =>
  bnd (ld .bool (Addr.add p1 6)) fun (v9 : Bool) =>
  bnd (ld .bool (Addr.add p1 7)) fun (v10 : Bool) =>
  bnd (ld (.int .i64) (Addr.add p1 5)) fun (v11 : Int) =>
  bnd (f28_words_bit v9 (44 : Int)) fun (r12 : Int) =>
  bnd (
  bnd (chk (.int .i64) (Addr.add p1 5) v11) fun _ =>
  bnd (chk .bool (Addr.add p1 7) v10) fun _ =>
  ret ()) fun _ =>
  bnd (f28_words_bit v10 (45 : Int)) fun (r13 : Int) =>
  bnd (
  bnd (chk (.int .i64) (Addr.add p1 5) v11) fun _ =>
  ret ()) fun _ =>
  ret ((bOr .u64 (bOr .u64 (bOr .u64 (bOr .u64 (bOr .u64 (bOr .u64 (IntKind.wrap .u64 v4) (shlI .u64 (IntKind.wrap .u64 v5) 12)) (shlI .u64 (IntKind.wrap .u64 v6) 15)) (shlI .u64 (IntKind.wrap .u64 v7) 18)) (shlI .u64 (IntKind.wrap .u64 v8) 40)) r12) r13), (IntKind.wrap .u64 v11), (0 : Int)))
noncomputable def Af9_words_Pack : Ann := (.two .nil (.two (.two .nil (.two (.two .nil .nil) .nil)) (.two .nil (.two (.draw [0, 1, 2, 5, 6, 9, 10, 11, 3, 4, 7, 8, 12, 13, 14]) .nil))))
noncomputable def Cf9_words_Pack : Ctx := mkC Try.prog tys zeros eqs [(27, ⟨(.agg (.pair (.int .i64) (.pair (.int .u8) (.pair (.int .i64) (.pair (.int .i64) (.pair (.int .i64) (.pair (.int .i64) (.pair .bool .bool)))))))), .bool, fun x => f27_words_may x⟩), (28, ⟨(.pair .bool (.int .i64)), (.int .u64), fun x => f28_words_bit x.1 x.2⟩)] []
theorem Cf9_words_Pack_ok : Cf9_words_Pack.Ok := mkC_ok mixed tysOk zerosOk eqsOk ⟨Sf27_words_may, Sf28_words_bit, trivial⟩ trivial
theorem Ef9_words_Pack (x : (Int × (Int × (Int × (Int × (Int × (Int × (Bool × Bool)))))))) : evF Cf9_words_Pack Try.f9 44 (.agg (.pair (.int .i64) (.pair (.int .u8) (.pair (.int .i64) (.pair (.int .i64) (.pair (.int .i64) (.pair (.int .i64) (.pair .bool .bool)))))))) (.tup (.pair (.int .u64) (.pair (.int .u64) (.int .i64)))) Af9_words_Pack x = f9_words_Pack x := by kernel_rfl
theorem Sf9_words_Pack : SoundF Try.prog 9 ⟨(.agg (.pair (.int .i64) (.pair (.int .u8) (.pair (.int .i64) (.pair (.int .i64) (.pair (.int .i64) (.pair (.int .i64) (.pair .bool .bool)))))))), (.tup (.pair (.int .u64) (.pair (.int .u64) (.int .i64)))), fun x => f9_words_Pack x⟩ :=
  soundF_of Cf9_words_Pack_ok Try.func9 (by kernel_rfl) (by kernel_rfl) Ef9_words_Pack
/-- palaverwords.field -/
noncomputable def f31_words_field (x0 : Int) (x1 : Int) (x2 : Int) : M Int :=
  bnd drawM fun _ =>
  bnd (cnt x1) fun (c1 : Nat) =>
  bnd (cnt x2) fun (c2 : Nat) =>
  ret (IntKind.wrap .i64 (bAnd .u64 (shrI .u64 x0 c1) (IntKind.wrap .u64 ((shlI .u64 (1 : Int) c2) - (1 : Int)))))
noncomputable def Af31_words_field : Ann := (.two .nil (.two .nil .nil))
noncomputable def Cf31_words_field : Ctx := mkC Try.prog tys zeros eqs [] []
theorem Cf31_words_field_ok : Cf31_words_field.Ok := mkC_ok mixed tysOk zerosOk eqsOk trivial trivial
theorem Ef31_words_field (x : (Int × (Int × Int))) : evF Cf31_words_field Try.f31 15 (.pair (.int .u64) (.pair (.int .i64) (.int .i64))) (.int .i64) Af31_words_field x = f31_words_field x.1 x.2.1 x.2.2 := by kernel_rfl
theorem Sf31_words_field : SoundF Try.prog 31 ⟨(.pair (.int .u64) (.pair (.int .i64) (.int .i64))), (.int .i64), fun x => f31_words_field x.1 x.2.1 x.2.2⟩ :=
  soundF_of Cf31_words_field_ok Try.func31 (by kernel_rfl) (by kernel_rfl) Ef31_words_field
/-- palaverwords.Unpack -/
noncomputable def f11_words_Unpack (x0 : Int) (x1 : Int) : M ((Int × (Int × (Int × (Int × (Int × (Int × (Bool × Bool))))))) × Int) :=
  bnd (newC 24 [.int .i64 (0 : Int), .int .u8 (0 : Int), .int .i64 (0 : Int), .int .i64 (0 : Int), .int .i64 (0 : Int), .int .i64 (0 : Int), .bool false, .bool false]) fun (p1 : Addr) =>
  cnd (cond ((shrI .u64 x0 46) != (0 : Int)) true (decide (x1 > (65536 : Int)))) (
  bnd (wrs p1 0 [.int .i64 (0 : Int), .int .u8 (0 : Int), .int .i64 (0 : Int), .int .i64 (0 : Int), .int .i64 (0 : Int), .int .i64 (0 : Int), .bool false, .bool false]) fun _ =>
  bnd (ld (.agg (.pair (.int .i64) (.pair (.int .u8) (.pair (.int .i64) (.pair (.int .i64) (.pair (.int .i64) (.pair (.int .i64) (.pair .bool .bool)))))))) p1) fun (v2 : (Int × (Int × (Int × (Int × (Int × (Int × (Bool × Bool)))))))) =>
  ret (v2, (10 : Int))) (
  bnd (f31_words_field x0 (0 : Int) (12 : Int)) fun (r3 : Int) =>
  bnd (f31_words_field x0 (12 : Int) (3 : Int)) fun (r4 : Int) =>
  bnd (f31_words_field x0 (15 : Int) (3 : Int)) fun (r5 : Int) =>
  bnd (f31_words_field x0 (18 : Int) (22 : Int)) fun (r6 : Int) =>
  bnd (f31_words_field x0 (40 : Int) (4 : Int)) fun (r7 : Int) =>
  bnd (f31_words_field x0 (44 : Int) (1 : Int)) fun (r8 : Int) =>
  bnd (f31_words_field x0 (45 : Int) (1 : Int)) fun (r9 : Int) =>
  bnd (newC 24 [.int .i64 (0 : Int), .int .u8 (0 : Int), .int .i64 (0 : Int), .int .i64 (0 : Int), .int .i64 (0 : Int), .int .i64 (0 : Int), .bool false, .bool false]) fun (p10 : Addr) =>
  bnd (wrs p10 0 [.int .i64 r3, .int .u8 (IntKind.wrap .u8 r4), .int .i64 r5, .int .i64 r6, .int .i64 r7, .int .i64 (IntKind.wrap .i64 x1), .bool (r8 == (1 : Int)), .bool (r9 == (1 : Int))]) fun _ =>
  bnd (ld (.agg (.pair (.int .i64) (.pair (.int .u8) (.pair (.int .i64) (.pair (.int .i64) (.pair (.int .i64) (.pair (.int .i64) (.pair .bool .bool)))))))) p10) fun (v11 : (Int × (Int × (Int × (Int × (Int × (Int × (Bool × Bool)))))))) =>
  bnd (f27_words_may v11) fun (r12 : Bool) =>
  cnd (!r12) (
  bnd (wrs p1 0 [.int .i64 (0 : Int), .int .u8 (0 : Int), .int .i64 (0 : Int), .int .i64 (0 : Int), .int .i64 (0 : Int), .int .i64 (0 : Int), .bool false, .bool false]) fun _ =>
  bnd (ld (.agg (.pair (.int .i64) (.pair (.int .u8) (.pair (.int .i64) (.pair (.int .i64) (.pair (.int .i64) (.pair (.int .i64) (.pair .bool .bool)))))))) p1) fun (v13 : (Int × (Int × (Int × (Int × (Int × (Int × (Bool × Bool)))))))) =>
  ret (v13, (10 : Int))) (
  bnd (ld (.agg (.pair (.int .i64) (.pair (.int .u8) (.pair (.int .i64) (.pair (.int .i64) (.pair (.int .i64) (.pair (.int .i64) (.pair .bool .bool)))))))) p10) fun (v14 : (Int × (Int × (Int × (Int × (Int × (Int × (Bool × Bool)))))))) =>
  bnd (wrs p1 0 [.int .i64 v14.1, .int .u8 v14.2.1, .int .i64 v14.2.2.1, .int .i64 v14.2.2.2.1, .int .i64 v14.2.2.2.2.1, .int .i64 v14.2.2.2.2.2.1, .bool v14.2.2.2.2.2.2.1, .bool v14.2.2.2.2.2.2.2]) fun _ =>
  bnd (ld (.agg (.pair (.int .i64) (.pair (.int .u8) (.pair (.int .i64) (.pair (.int .i64) (.pair (.int .i64) (.pair (.int .i64) (.pair .bool .bool)))))))) p1) fun (v15 : (Int × (Int × (Int × (Int × (Int × (Int × (Bool × Bool)))))))) =>
  ret (v15, (0 : Int))))
noncomputable def Af11_words_Unpack : Ann := (.two .nil (.two (.two .nil (.two (.two .nil .nil) .nil)) (.two .nil (.two (.two .nil (.two (.two .nil .nil) .nil)) (.two .nil .nil)))))
noncomputable def Cf11_words_Unpack : Ctx := mkC Try.prog tys zeros eqs [(27, ⟨(.agg (.pair (.int .i64) (.pair (.int .u8) (.pair (.int .i64) (.pair (.int .i64) (.pair (.int .i64) (.pair (.int .i64) (.pair .bool .bool)))))))), .bool, fun x => f27_words_may x⟩), (31, ⟨(.pair (.int .u64) (.pair (.int .i64) (.int .i64))), (.int .i64), fun x => f31_words_field x.1 x.2.1 x.2.2⟩)] []
theorem Cf11_words_Unpack_ok : Cf11_words_Unpack.Ok := mkC_ok mixed tysOk zerosOk eqsOk ⟨Sf27_words_may, Sf31_words_field, trivial⟩ trivial
theorem Ef11_words_Unpack (x : (Int × Int)) : evF Cf11_words_Unpack Try.f11 40 (.pair (.int .u64) (.int .u64)) (.tup (.pair (.agg (.pair (.int .i64) (.pair (.int .u8) (.pair (.int .i64) (.pair (.int .i64) (.pair (.int .i64) (.pair (.int .i64) (.pair .bool .bool)))))))) (.int .i64))) Af11_words_Unpack x = f11_words_Unpack x.1 x.2 := by kernel_rfl
theorem Sf11_words_Unpack : SoundF Try.prog 11 ⟨(.pair (.int .u64) (.int .u64)), (.tup (.pair (.agg (.pair (.int .i64) (.pair (.int .u8) (.pair (.int .i64) (.pair (.int .i64) (.pair (.int .i64) (.pair (.int .i64) (.pair .bool .bool)))))))) (.int .i64))), fun x => f11_words_Unpack x.1 x.2⟩ :=
  soundF_of Cf11_words_Unpack_ok Try.func11 (by kernel_rfl) (by kernel_rfl) Ef11_words_Unpack
/-- palaverwords.Tag -/
noncomputable def f19_words_Tag (x0 : Int) : M Int :=
  cnd ((bAnd .u64 x0 (7 : Int)) == (1 : Int)) (
  ret (1 : Int)) (
  bnd (
  cnd ((bAnd .u64 x0 (7 : Int)) == (2 : Int)) (
  cnd (decide ((shrI .u64 x0 3) ≤ (2097151 : Int))) (
  ret (Sum.inr (2 : Int))) (
  ret (Sum.inl ()))) (
  bnd (
  cnd ((bAnd .u64 x0 (7 : Int)) == (0 : Int)) (
  cnd ((shrI .u64 x0 3) == (0 : Int)) (
  ret (Sum.inr (Sum.inr (0 : Int)))) (
  cnd (decide ((shrI .u64 x0 3) ≤ (268435455 : Int))) (
  ret (Sum.inr (Sum.inr (3 : Int)))) (
  ret (Sum.inl ())))) (
  ret (Sum.inl ()))) (fun
  | .inl (s3 : Unit) =>
  ret (Sum.inl ())
  | .inr r9 => ret r9))) (fun
  | .inl (s1 : Unit) =>
  ret (4 : Int)
  | .inr r11 => ret r11))
noncomputable def Af19_words_Tag : Ann := (.two .nil (.two .nil (.two (.two .nil (.one (.two .nil (.two (.two .nil .nil) (.two .nil (.join [] [2, 12, 13, 14, 15, 16, 17, 18, 19] true (.two (.two .nil (.two (.two .nil .nil) .nil)) (.two .nil (.join [] [2, 16, 17, 18, 19] true (.two (.two (.two .nil (.two (.two .nil .nil) .nil)) (.two .nil (.two (.two .nil .nil) .nil))) .nil)))))))))) (.two .nil .nil))))
noncomputable def Cf19_words_Tag : Ctx := mkC Try.prog tys zeros eqs [] []
theorem Cf19_words_Tag_ok : Cf19_words_Tag.Ok := mkC_ok mixed tysOk zerosOk eqsOk trivial trivial
theorem Ef19_words_Tag (x : Int) : evF Cf19_words_Tag Try.f19 20 (.int .u64) (.int .u8) Af19_words_Tag x = f19_words_Tag x := by kernel_rfl
theorem Sf19_words_Tag : SoundF Try.prog 19 ⟨(.int .u64), (.int .u8), fun x => f19_words_Tag x⟩ :=
  soundF_of Cf19_words_Tag_ok Try.func19 (by kernel_rfl) (by kernel_rfl) Ef19_words_Tag
/-- palaverpalaverlaw01.works -/
noncomputable def f8_palaverlaw01_works : M Bool :=
  bnd (f9_words_Pack ((5 : Int), (2 : Int), (0 : Int), (1 : Int), (0 : Int), (3 : Int), false, false)) fun (r1 : (Int × (Int × Int))) =>
  bnd (f11_words_Unpack (0 : Int) (0 : Int)) fun (r2 : ((Int × (Int × (Int × (Int × (Int × (Int × (Bool × Bool))))))) × Int)) =>
  bnd (newC 24 [.int .i64 (0 : Int), .int .u8 (0 : Int), .int .i64 (0 : Int), .int .i64 (0 : Int), .int .i64 (0 : Int), .int .i64 (0 : Int), .bool false, .bool false]) fun (p3 : Addr) =>
  bnd (wrs p3 0 [.int .i64 r2.1.1, .int .u8 r2.1.2.1, .int .i64 r2.1.2.2.1, .int .i64 r2.1.2.2.2.1, .int .i64 r2.1.2.2.2.2.1, .int .i64 r2.1.2.2.2.2.2.1, .bool r2.1.2.2.2.2.2.2.1, .bool r2.1.2.2.2.2.2.2.2]) fun _ =>
  bnd (f19_words_Tag (3 : Int)) fun (r4 : Int) =>
  bnd (
  cnd (cond (cond (cond (cond (cond (cond (cond (cond (cond (cond (cond (cond ((Gf13_words_Small (0 : Int)).1 == (1 : Int)) (Gf13_words_Small (0 : Int)).2 false) ((Gf13_words_Small (-1 : Int)).1 == (18446744073709551609 : Int)) false) (Gf13_words_Small (-1 : Int)).2 false) ((Gf13_words_Small (1152921504606846976 : Int)).1 == (0 : Int)) false) (!(Gf13_words_Small (1152921504606846976 : Int)).2) false) ((Gf15_words_Char (97 : Int)).1 == (778 : Int)) false) (Gf15_words_Char (97 : Int)).2 false) ((Gf17_words_Object (2 : Int)).1 == (16 : Int)) false) (Gf17_words_Object (2 : Int)).2 false) (r1.1 == (270341 : Int)) false) (r1.2.1 == (3 : Int)) false) (r1.2.2 == (0 : Int)) false) (
  bnd (ld (.agg (.pair (.int .i64) (.pair (.int .u8) (.pair (.int .i64) (.pair (.int .i64) (.pair (.int .i64) (.pair (.int .i64) (.pair .bool .bool)))))))) p3) fun (v5 : (Int × (Int × (Int × (Int × (Int × (Int × (Bool × Bool)))))))) =>
  ret ((v5.1 == (0 : Int)) && ((v5.2.1 == (0 : Int)) && ((v5.2.2.1 == (0 : Int)) && ((v5.2.2.2.1 == (0 : Int)) && ((v5.2.2.2.2.1 == (0 : Int)) && ((v5.2.2.2.2.2.1 == (0 : Int)) && ((v5.2.2.2.2.2.2.1 == false) && (v5.2.2.2.2.2.2.2 == false))))))))) (
  ret false)) fun (b6 : Bool) =>
  ret (cond (cond (cond (cond (cond (cond (cond (cond b6 (r2.2 == (10 : Int)) false) (r4 == (4 : Int)) false) (r2.2 == (10 : Int)) false) true false) true false) true false) true false) true false)
noncomputable def Af8_palaverlaw01_works : Ann := (.two .nil (.two .nil (.two .nil (.two .nil (.two .nil (.two .nil (.two .nil (.two .nil (.two .nil (.two .nil .nil))))))))))
noncomputable def Cf8_palaverlaw01_works : Ctx := mkC Try.prog tys zeros eqs [(9, ⟨(.agg (.pair (.int .i64) (.pair (.int .u8) (.pair (.int .i64) (.pair (.int .i64) (.pair (.int .i64) (.pair (.int .i64) (.pair .bool .bool)))))))), (.tup (.pair (.int .u64) (.pair (.int .u64) (.int .i64)))), fun x => f9_words_Pack x⟩), (11, ⟨(.pair (.int .u64) (.int .u64)), (.tup (.pair (.agg (.pair (.int .i64) (.pair (.int .u8) (.pair (.int .i64) (.pair (.int .i64) (.pair (.int .i64) (.pair (.int .i64) (.pair .bool .bool)))))))) (.int .i64))), fun x => f11_words_Unpack x.1 x.2⟩), (19, ⟨(.int .u64), (.int .u8), fun x => f19_words_Tag x⟩)] [(13, ⟨(.int .i64), (.tup (.pair (.int .u64) .bool)), fun x => Gf13_words_Small x⟩), (15, ⟨(.int .i64), (.tup (.pair (.int .u64) .bool)), fun x => Gf15_words_Char x⟩), (17, ⟨(.int .i64), (.tup (.pair (.int .u64) .bool)), fun x => Gf17_words_Object x⟩)]
theorem Cf8_palaverlaw01_works_ok : Cf8_palaverlaw01_works.Ok := mkC_ok mixed tysOk zerosOk eqsOk ⟨Sf9_words_Pack, Sf11_words_Unpack, Sf19_words_Tag, trivial⟩ ⟨Pf13_words_Small, Pf15_words_Char, Pf17_words_Object, trivial⟩
theorem Ef8_palaverlaw01_works (x : Unit) : evF Cf8_palaverlaw01_works Try.f8 121 .unit .bool Af8_palaverlaw01_works x = f8_palaverlaw01_works := by kernel_rfl
theorem Sf8_palaverlaw01_works : SoundF Try.prog 8 ⟨.unit, .bool, fun _ => f8_palaverlaw01_works⟩ :=
  soundF_of Cf8_palaverlaw01_works_ok Try.func8 (by kernel_rfl) (by kernel_rfl) Ef8_palaverlaw01_works
/-- palaverpalaverref01.May -/
noncomputable def f29_palaverref01_May (x0 : (Int × (Int × (Int × (Int × (Int × (Int × (Bool × Bool)))))))) : M Bool :=
  bnd (newC 24 [.int .i64 x0.1, .int .u8 x0.2.1, .int .i64 x0.2.2.1, .int .i64 x0.2.2.2.1, .int .i64 x0.2.2.2.2.1, .int .i64 x0.2.2.2.2.2.1, .bool x0.2.2.2.2.2.2.1, .bool x0.2.2.2.2.2.2.2]) fun (p1 : Addr) =>
  bnd (ld (.int .i64) (Addr.add p1 0)) fun (v2 : Int) =>
  bnd (
  cnd (decide (v2 < (0 : Int))) (
  ret true) (
  bnd (ld (.int .i64) (Addr.add p1 0)) fun (v3 : Int) =>
  ret (decide (v3 ≥ (4096 : Int))))) fun (b4 : Bool) =>
  bnd (
  cnd b4 (
  ret true) (
  bnd (ld (.int .u8) (Addr.add p1 1)) fun (v5 : Int) =>
  ret (decide (v5 < (1 : Int))))) fun (b6 : Bool) =>
  bnd (
  cnd b6 (
  ret true) (
  bnd (ld (.int .u8) (Addr.add p1 1)) fun (v7 : Int) =>
  ret (decide (v7 > (6 : Int))))) fun (b8 : Bool) =>
  bnd (
  cnd b8 (
  ret true) (
  bnd (ld (.int .i64) (Addr.add p1 3)) fun (v9 : Int) =>
  ret (decide (v9 < (0 : Int))))) fun (b10 : Bool) =>
  bnd (
  cnd b10 (
  ret true) (
  bnd (ld (.int .i64) (Addr.add p1 3)) fun (v11 : Int) =>
  ret (decide (v11 > (4194303 : Int))))) fun (b12 : Bool) =>
  bnd (
  cnd b12 (
  ret true) (
  bnd (ld (.int .i64) (Addr.add p1 4)) fun (v13 : Int) =>
  ret (decide (v13 < (0 : Int))))) fun (b14 : Bool) =>
  bnd (
  cnd b14 (
  ret true) (
  bnd (ld (.int .i64) (Addr.add p1 4)) fun (v15 : Int) =>
  ret (decide (v15 > (15 : Int))))) fun (b16 : Bool) =>
  bnd (
  cnd b16 (
  ret true) (
  bnd (ld (.int .i64) (Addr.add p1 5)) fun (v17 : Int) =>
  ret (decide (v17 < (0 : Int))))) fun (b18 : Bool) =>
  bnd (
  cnd b18 (
  ret true) (
  bnd (ld (.int .i64) (Addr.add p1 5)) fun (v19 : Int) =>
  ret (decide (v19 > (65536 : Int))))) fun (b20 : Bool) =>
  bnd (
  cnd b20 (
  ret true) (
  bnd (ld (.int .i64) (Addr.add p1 2)) fun (v21 : Int) =>
  ret (decide (v21 < (0 : Int))))) fun (b22 : Bool) =>
  bnd (
  cnd b22 (
  ret true) (
  bnd (ld (.int .i64) (Addr.add p1 2)) fun (v23 : Int) =>
  ret (decide (v23 > (7 : Int))))) fun (b24 : Bool) =>
  cnd b24 (
  ret false) (
  bnd (ld (.int .u8) (Addr.add p1 1)) fun (v25 : Int) =>
  bnd (
  cnd (v25 == (3 : Int)) (
  ret true) (
  bnd (ld (.int .u8) (Addr.add p1 1)) fun (v26 : Int) =>
  ret (v26 == (6 : Int)))) fun (b27 : Bool) =>
  bnd (
  cnd b27 (
  bnd (ld (.int .i64) (Addr.add p1 5)) fun (v28 : Int) =>
  ret (decide (v28 < (1 : Int)))) (
  ret false)) fun (b29 : Bool) =>
  cnd b29 (
  ret false) (
  bnd (ld (.int .i64) (Addr.add p1 2)) fun (v30 : Int) =>
  cnd (v30 == (0 : Int)) (
  ret true) (
  bnd (ld (.int .u8) (Addr.add p1 1)) fun (v31 : Int) =>
  bnd (
  cnd (v31 == (5 : Int)) (
  bnd (ld (.int .i64) (Addr.add p1 5)) fun (v32 : Int) =>
  ret (decide (v32 > (0 : Int)))) (
  ret false)) fun (b33 : Bool) =>
  bnd (
  cnd b33 (
  ret true) (
  bnd (ld (.int .u8) (Addr.add p1 1)) fun (v34 : Int) =>
  bnd (
  cnd (v34 == (6 : Int)) (
  bnd (ld (.int .i64) (Addr.add p1 5)) fun (v35 : Int) =>
  ret (decide (v35 > (1 : Int)))) (
  ret false)) fun (b36 : Bool) =>
  ret b36)) fun (b37 : Bool) =>
  ret b37)))
noncomputable def Af29_palaverref01_May : Ann := (.two .nil (.two (.two .nil (.two (.two .nil .nil) .nil)) (.two (.two .nil (.two (.two .nil .nil) .nil)) (.two (.two .nil (.two (.two .nil .nil) .nil)) (.two .nil .nil)))))
noncomputable def Cf29_palaverref01_May : Ctx := mkC Try.prog tys zeros eqs [] []
theorem Cf29_palaverref01_May_ok : Cf29_palaverref01_May.Ok := mkC_ok mixed tysOk zerosOk eqsOk trivial trivial
theorem Ef29_palaverref01_May (x : (Int × (Int × (Int × (Int × (Int × (Int × (Bool × Bool)))))))) : evF Cf29_palaverref01_May Try.f29 95 (.agg (.pair (.int .i64) (.pair (.int .u8) (.pair (.int .i64) (.pair (.int .i64) (.pair (.int .i64) (.pair (.int .i64) (.pair .bool .bool)))))))) .bool Af29_palaverref01_May x = f29_palaverref01_May x := by kernel_rfl
theorem Sf29_palaverref01_May : SoundF Try.prog 29 ⟨(.agg (.pair (.int .i64) (.pair (.int .u8) (.pair (.int .i64) (.pair (.int .i64) (.pair (.int .i64) (.pair (.int .i64) (.pair .bool .bool)))))))), .bool, fun x => f29_palaverref01_May x⟩ :=
  soundF_of Cf29_palaverref01_May_ok Try.func29 (by kernel_rfl) (by kernel_rfl) Ef29_palaverref01_May
noncomputable def Gf30_palaverref01_one (x0 : Bool) : Int :=
  (cond x0 (1 : Int) (0 : Int))
/-- palaverpalaverref01.one -/
noncomputable def f30_palaverref01_one (x0 : Bool) : M Int :=
  cnd x0 (
  ret (1 : Int)) (
  ret (0 : Int))
noncomputable def Af30_palaverref01_one : Ann := (.two .nil (.two (.two .nil (.two (.two .nil .nil) .nil)) (.two .nil .nil)))
noncomputable def Cf30_palaverref01_one : Ctx := mkC Try.prog tys zeros eqs [] []
theorem Cf30_palaverref01_one_ok : Cf30_palaverref01_one.Ok := mkC_ok mixed tysOk zerosOk eqsOk trivial trivial
theorem Ef30_palaverref01_one (x : Bool) : evF Cf30_palaverref01_one Try.f30 4 .bool (.int .u64) Af30_palaverref01_one x = f30_palaverref01_one x := by kernel_rfl
theorem Sf30_palaverref01_one : SoundF Try.prog 30 ⟨.bool, (.int .u64), fun x => f30_palaverref01_one x⟩ :=
  soundF_of Cf30_palaverref01_one_ok Try.func30 (by kernel_rfl) (by kernel_rfl) Ef30_palaverref01_one
theorem Hf30_palaverref01_one (x0 : Bool) : f30_palaverref01_one x0 = ret (Gf30_palaverref01_one x0) := by
  simp only [f30_palaverref01_one, Gf30_palaverref01_one, bnd_ret, cnd_ret, bnd_cnd]
theorem Pf30_palaverref01_one : SoundP Try.prog 30 ⟨.bool, (.int .u64), fun x => Gf30_palaverref01_one x⟩ := soundP_of Sf30_palaverref01_one fun x => Hf30_palaverref01_one x
/-- palaverpalaverref01.Pack -/
noncomputable def f10_palaverref01_Pack (x0 : (Int × (Int × (Int × (Int × (Int × (Int × (Bool × Bool)))))))) : M (Int × (Int × Int)) :=
  bnd (newC 24 [.int .i64 x0.1, .int .u8 x0.2.1, .int .i64 x0.2.2.1, .int .i64 x0.2.2.2.1, .int .i64 x0.2.2.2.2.1, .int .i64 x0.2.2.2.2.2.1, .bool x0.2.2.2.2.2.2.1, .bool x0.2.2.2.2.2.2.2]) fun (p1 : Addr) =>
  bnd (ld (.agg (.pair (.int .i64) (.pair (.int .u8) (.pair (.int .i64) (.pair (.int .i64) (.pair (.int .i64) (.pair (.int .i64) (.pair .bool .bool)))))))) p1) fun (v2 : (Int × (Int × (Int × (Int × (Int × (Int × (Bool × Bool)))))))) =>
  bnd (f29_palaverref01_May v2) fun (r3 : Bool) =>
  cnd (!r3) (
  ret ((0 : Int), (0 : Int), (10 : Int))) (
  bnd (ld (.int .i64) (Addr.add p1 0)) fun (v4 : Int) =>
  bnd (ld (.int .u8) (Addr.add p1 1)) fun (v5 : Int) =>
  bnd (ld (.int .i64) (Addr.add p1 2)) fun (v6 : Int) =>
  bnd (ld (.int .i64) (Addr.add p1 3)) fun (v7 : Int) =>
  bnd (ld (.int .i64) (Addr.add p1 4)) fun (v8 : Int) =>
  bnd (ld .bool (Addr.add p1 6)) fun (v9 : Bool) =>
  bnd (ld .bool (Addr.add p1 7)) fun (v10 : Bool) =>
  bnd drawM fun _ =>
  bnd (ld (.int .i64) (Addr.add p1 5)) fun (v11 : Int) =>
  ret ((IntKind.wrap .u64 ((IntKind.wrap .u64 ((IntKind.wrap .u64 ((IntKind.wrap .u64 ((IntKind.wrap .u64 ((IntKind.wrap .u64 ((IntKind.wrap .u64 v4) + (IntKind.wrap .u64 ((IntKind.wrap .u64 v5) * (4096 : Int))))) + (IntKind.wrap .u64 ((IntKind.wrap .u64 v6) * (32768 : Int))))) + (IntKind.wrap .u64 ((IntKind.wrap .u64 v7) * (262144 : Int))))) + (IntKind.wrap .u64 ((IntKind.wrap .u64 v8) * (1099511627776 : Int))))) + (IntKind.wrap .u64 ((Gf30_palaverref01_one v9) * (17592186044416 : Int))))) + (IntKind.wrap .u64 ((Gf30_palaverref01_one v10) * (35184372088832 : Int))))), (IntKind.wrap .u64 v11), (0 : Int)))
noncomputable def Af10_palaverref01_Pack : Ann := (.two .nil (.two .nil (.two (.two .nil (.two (.two .nil .nil) .nil)) (.two .nil (.two .nil (.two .nil (.two .nil (.two .nil (.two .nil (.two .nil (.two .nil .nil)))))))))))
noncomputable def Cf10_palaverref01_Pack : Ctx := mkC Try.prog tys zeros eqs [(29, ⟨(.agg (.pair (.int .i64) (.pair (.int .u8) (.pair (.int .i64) (.pair (.int .i64) (.pair (.int .i64) (.pair (.int .i64) (.pair .bool .bool)))))))), .bool, fun x => f29_palaverref01_May x⟩)] [(30, ⟨.bool, (.int .u64), fun x => Gf30_palaverref01_one x⟩)]
theorem Cf10_palaverref01_Pack_ok : Cf10_palaverref01_Pack.Ok := mkC_ok mixed tysOk zerosOk eqsOk ⟨Sf29_palaverref01_May, trivial⟩ ⟨Pf30_palaverref01_one, trivial⟩
theorem Ef10_palaverref01_Pack (x : (Int × (Int × (Int × (Int × (Int × (Int × (Bool × Bool)))))))) : evF Cf10_palaverref01_Pack Try.f10 54 (.agg (.pair (.int .i64) (.pair (.int .u8) (.pair (.int .i64) (.pair (.int .i64) (.pair (.int .i64) (.pair (.int .i64) (.pair .bool .bool)))))))) (.tup (.pair (.int .u64) (.pair (.int .u64) (.int .i64)))) Af10_palaverref01_Pack x = f10_palaverref01_Pack x := by kernel_rfl
theorem Sf10_palaverref01_Pack : SoundF Try.prog 10 ⟨(.agg (.pair (.int .i64) (.pair (.int .u8) (.pair (.int .i64) (.pair (.int .i64) (.pair (.int .i64) (.pair (.int .i64) (.pair .bool .bool)))))))), (.tup (.pair (.int .u64) (.pair (.int .u64) (.int .i64)))), fun x => f10_palaverref01_Pack x⟩ :=
  soundF_of Cf10_palaverref01_Pack_ok Try.func10 (by kernel_rfl) (by kernel_rfl) Ef10_palaverref01_Pack
/-- palaverpalaverref01.Unpack -/
noncomputable def f12_palaverref01_Unpack (x0 : Int) (x1 : Int) : M ((Int × (Int × (Int × (Int × (Int × (Int × (Bool × Bool))))))) × Int) :=
  bnd (newC 24 [.int .i64 (0 : Int), .int .u8 (0 : Int), .int .i64 (0 : Int), .int .i64 (0 : Int), .int .i64 (0 : Int), .int .i64 (0 : Int), .bool false, .bool false]) fun (p1 : Addr) =>
  cnd (cond (decide (x0 ≥ (70368744177664 : Int))) true (decide (x1 > (65536 : Int)))) (
  bnd (wrs p1 0 [.int .i64 (0 : Int), .int .u8 (0 : Int), .int .i64 (0 : Int), .int .i64 (0 : Int), .int .i64 (0 : Int), .int .i64 (0 : Int), .bool false, .bool false]) fun _ =>
  bnd (ld (.agg (.pair (.int .i64) (.pair (.int .u8) (.pair (.int .i64) (.pair (.int .i64) (.pair (.int .i64) (.pair (.int .i64) (.pair .bool .bool)))))))) p1) fun (v2 : (Int × (Int × (Int × (Int × (Int × (Int × (Bool × Bool)))))))) =>
  ret (v2, (10 : Int))) (
  bnd (newC 24 [.int .i64 (0 : Int), .int .u8 (0 : Int), .int .i64 (0 : Int), .int .i64 (0 : Int), .int .i64 (0 : Int), .int .i64 (0 : Int), .bool false, .bool false]) fun (p3 : Addr) =>
  bnd (wrs p3 0 [.int .i64 (IntKind.wrap .i64 (Int.tmod x0 (4096 : Int))), .int .u8 (IntKind.wrap .u8 (Int.tmod (IntKind.wrap .u64 (Int.tdiv x0 (4096 : Int))) (8 : Int))), .int .i64 (IntKind.wrap .i64 (Int.tmod (IntKind.wrap .u64 (Int.tdiv x0 (32768 : Int))) (8 : Int))), .int .i64 (IntKind.wrap .i64 (Int.tmod (IntKind.wrap .u64 (Int.tdiv x0 (262144 : Int))) (4194304 : Int))), .int .i64 (IntKind.wrap .i64 (Int.tmod (IntKind.wrap .u64 (Int.tdiv x0 (1099511627776 : Int))) (16 : Int))), .int .i64 (IntKind.wrap .i64 x1), .bool ((Int.tmod (IntKind.wrap .u64 (Int.tdiv x0 (17592186044416 : Int))) (2 : Int)) == (1 : Int)), .bool ((IntKind.wrap .u64 (Int.tdiv x0 (35184372088832 : Int))) == (1 : Int))]) fun _ =>
  bnd (ld (.agg (.pair (.int .i64) (.pair (.int .u8) (.pair (.int .i64) (.pair (.int .i64) (.pair (.int .i64) (.pair (.int .i64) (.pair .bool .bool)))))))) p3) fun (v4 : (Int × (Int × (Int × (Int × (Int × (Int × (Bool × Bool)))))))) =>
  bnd (f29_palaverref01_May v4) fun (r5 : Bool) =>
  cnd (!r5) (
  bnd (wrs p1 0 [.int .i64 (0 : Int), .int .u8 (0 : Int), .int .i64 (0 : Int), .int .i64 (0 : Int), .int .i64 (0 : Int), .int .i64 (0 : Int), .bool false, .bool false]) fun _ =>
  bnd (ld (.agg (.pair (.int .i64) (.pair (.int .u8) (.pair (.int .i64) (.pair (.int .i64) (.pair (.int .i64) (.pair (.int .i64) (.pair .bool .bool)))))))) p1) fun (v6 : (Int × (Int × (Int × (Int × (Int × (Int × (Bool × Bool)))))))) =>
  ret (v6, (10 : Int))) (
  bnd (ld (.agg (.pair (.int .i64) (.pair (.int .u8) (.pair (.int .i64) (.pair (.int .i64) (.pair (.int .i64) (.pair (.int .i64) (.pair .bool .bool)))))))) p3) fun (v7 : (Int × (Int × (Int × (Int × (Int × (Int × (Bool × Bool)))))))) =>
  bnd (wrs p1 0 [.int .i64 v7.1, .int .u8 v7.2.1, .int .i64 v7.2.2.1, .int .i64 v7.2.2.2.1, .int .i64 v7.2.2.2.2.1, .int .i64 v7.2.2.2.2.2.1, .bool v7.2.2.2.2.2.2.1, .bool v7.2.2.2.2.2.2.2]) fun _ =>
  bnd (ld (.agg (.pair (.int .i64) (.pair (.int .u8) (.pair (.int .i64) (.pair (.int .i64) (.pair (.int .i64) (.pair (.int .i64) (.pair .bool .bool)))))))) p1) fun (v8 : (Int × (Int × (Int × (Int × (Int × (Int × (Bool × Bool)))))))) =>
  ret (v8, (0 : Int))))
noncomputable def Af12_palaverref01_Unpack : Ann := (.two .nil (.two (.two .nil (.two (.two .nil .nil) .nil)) (.two .nil (.two .nil (.two (.two .nil (.two (.two .nil .nil) .nil)) (.two .nil .nil))))))
noncomputable def Cf12_palaverref01_Unpack : Ctx := mkC Try.prog tys zeros eqs [(29, ⟨(.agg (.pair (.int .i64) (.pair (.int .u8) (.pair (.int .i64) (.pair (.int .i64) (.pair (.int .i64) (.pair (.int .i64) (.pair .bool .bool)))))))), .bool, fun x => f29_palaverref01_May x⟩)] []
theorem Cf12_palaverref01_Unpack_ok : Cf12_palaverref01_Unpack.Ok := mkC_ok mixed tysOk zerosOk eqsOk ⟨Sf29_palaverref01_May, trivial⟩ trivial
theorem Ef12_palaverref01_Unpack (x : (Int × Int)) : evF Cf12_palaverref01_Unpack Try.f12 50 (.pair (.int .u64) (.int .u64)) (.tup (.pair (.agg (.pair (.int .i64) (.pair (.int .u8) (.pair (.int .i64) (.pair (.int .i64) (.pair (.int .i64) (.pair (.int .i64) (.pair .bool .bool)))))))) (.int .i64))) Af12_palaverref01_Unpack x = f12_palaverref01_Unpack x.1 x.2 := by kernel_rfl
theorem Sf12_palaverref01_Unpack : SoundF Try.prog 12 ⟨(.pair (.int .u64) (.int .u64)), (.tup (.pair (.agg (.pair (.int .i64) (.pair (.int .u8) (.pair (.int .i64) (.pair (.int .i64) (.pair (.int .i64) (.pair (.int .i64) (.pair .bool .bool)))))))) (.int .i64))), fun x => f12_palaverref01_Unpack x.1 x.2⟩ :=
  soundF_of Cf12_palaverref01_Unpack_ok Try.func12 (by kernel_rfl) (by kernel_rfl) Ef12_palaverref01_Unpack
/-- palaverpalaverlaw01.WordsHeaders -/
noncomputable def f3_palaverlaw01_WordsHeaders (x0 : (Int × (Int × (Int × (Int × (Int × (Int × (Bool × Bool)))))))) (x1 : Int) (x2 : Int) : M Bool :=
  bnd (newC 24 [.int .i64 x0.1, .int .u8 x0.2.1, .int .i64 x0.2.2.1, .int .i64 x0.2.2.2.1, .int .i64 x0.2.2.2.2.1, .int .i64 x0.2.2.2.2.2.1, .bool x0.2.2.2.2.2.2.1, .bool x0.2.2.2.2.2.2.2]) fun (p1 : Addr) =>
  bnd f8_palaverlaw01_works fun (r2 : Bool) =>
  bnd (ld (.agg (.pair (.int .i64) (.pair (.int .u8) (.pair (.int .i64) (.pair (.int .i64) (.pair (.int .i64) (.pair (.int .i64) (.pair .bool .bool)))))))) p1) fun (v3 : (Int × (Int × (Int × (Int × (Int × (Int × (Bool × Bool)))))))) =>
  bnd (f9_words_Pack v3) fun (r4 : (Int × (Int × Int))) =>
  bnd (ld (.agg (.pair (.int .i64) (.pair (.int .u8) (.pair (.int .i64) (.pair (.int .i64) (.pair (.int .i64) (.pair (.int .i64) (.pair .bool .bool)))))))) p1) fun (v5 : (Int × (Int × (Int × (Int × (Int × (Int × (Bool × Bool)))))))) =>
  bnd (f10_palaverref01_Pack v5) fun (r6 : (Int × (Int × Int))) =>
  bnd (f11_words_Unpack x1 x2) fun (r7 : ((Int × (Int × (Int × (Int × (Int × (Int × (Bool × Bool))))))) × Int)) =>
  bnd (newC 24 [.int .i64 (0 : Int), .int .u8 (0 : Int), .int .i64 (0 : Int), .int .i64 (0 : Int), .int .i64 (0 : Int), .int .i64 (0 : Int), .bool false, .bool false]) fun (p8 : Addr) =>
  bnd (wrs p8 0 [.int .i64 r7.1.1, .int .u8 r7.1.2.1, .int .i64 r7.1.2.2.1, .int .i64 r7.1.2.2.2.1, .int .i64 r7.1.2.2.2.2.1, .int .i64 r7.1.2.2.2.2.2.1, .bool r7.1.2.2.2.2.2.2.1, .bool r7.1.2.2.2.2.2.2.2]) fun _ =>
  bnd (f12_palaverref01_Unpack x1 x2) fun (r9 : ((Int × (Int × (Int × (Int × (Int × (Int × (Bool × Bool))))))) × Int)) =>
  bnd (newC 24 [.int .i64 (0 : Int), .int .u8 (0 : Int), .int .i64 (0 : Int), .int .i64 (0 : Int), .int .i64 (0 : Int), .int .i64 (0 : Int), .bool false, .bool false]) fun (p10 : Addr) =>
  bnd (wrs p10 0 [.int .i64 r9.1.1, .int .u8 r9.1.2.1, .int .i64 r9.1.2.2.1, .int .i64 r9.1.2.2.2.1, .int .i64 r9.1.2.2.2.2.1, .int .i64 r9.1.2.2.2.2.2.1, .bool r9.1.2.2.2.2.2.2.1, .bool r9.1.2.2.2.2.2.2.2]) fun _ =>
  bnd (
  cnd (cond (cond (cond r2 (r4.1 == r6.1) false) (r4.2.1 == r6.2.1) false) (r4.2.2 == r6.2.2) false) (
  bnd (ld (.agg (.pair (.int .i64) (.pair (.int .u8) (.pair (.int .i64) (.pair (.int .i64) (.pair (.int .i64) (.pair (.int .i64) (.pair .bool .bool)))))))) p8) fun (v11 : (Int × (Int × (Int × (Int × (Int × (Int × (Bool × Bool)))))))) =>
  bnd (ld (.agg (.pair (.int .i64) (.pair (.int .u8) (.pair (.int .i64) (.pair (.int .i64) (.pair (.int .i64) (.pair (.int .i64) (.pair .bool .bool)))))))) p10) fun (v12 : (Int × (Int × (Int × (Int × (Int × (Int × (Bool × Bool)))))))) =>
  ret ((v11.1 == v12.1) && ((v11.2.1 == v12.2.1) && ((v11.2.2.1 == v12.2.2.1) && ((v11.2.2.2.1 == v12.2.2.2.1) && ((v11.2.2.2.2.1 == v12.2.2.2.2.1) && ((v11.2.2.2.2.2.1 == v12.2.2.2.2.2.1) && ((v11.2.2.2.2.2.2.1 == v12.2.2.2.2.2.2.1) && (v11.2.2.2.2.2.2.2 == v12.2.2.2.2.2.2.2))))))))) (
  ret false)) fun (b13 : Bool) =>
  ret (cond b13 (r7.2 == r9.2) false)
noncomputable def Af3_palaverlaw01_WordsHeaders : Ann := (.two .nil (.two .nil (.two .nil (.two .nil (.two .nil (.two .nil (.two .nil .nil)))))))
noncomputable def Cf3_palaverlaw01_WordsHeaders : Ctx := mkC Try.prog tys zeros eqs [(8, ⟨.unit, .bool, fun _ => f8_palaverlaw01_works⟩), (9, ⟨(.agg (.pair (.int .i64) (.pair (.int .u8) (.pair (.int .i64) (.pair (.int .i64) (.pair (.int .i64) (.pair (.int .i64) (.pair .bool .bool)))))))), (.tup (.pair (.int .u64) (.pair (.int .u64) (.int .i64)))), fun x => f9_words_Pack x⟩), (10, ⟨(.agg (.pair (.int .i64) (.pair (.int .u8) (.pair (.int .i64) (.pair (.int .i64) (.pair (.int .i64) (.pair (.int .i64) (.pair .bool .bool)))))))), (.tup (.pair (.int .u64) (.pair (.int .u64) (.int .i64)))), fun x => f10_palaverref01_Pack x⟩), (11, ⟨(.pair (.int .u64) (.int .u64)), (.tup (.pair (.agg (.pair (.int .i64) (.pair (.int .u8) (.pair (.int .i64) (.pair (.int .i64) (.pair (.int .i64) (.pair (.int .i64) (.pair .bool .bool)))))))) (.int .i64))), fun x => f11_words_Unpack x.1 x.2⟩), (12, ⟨(.pair (.int .u64) (.int .u64)), (.tup (.pair (.agg (.pair (.int .i64) (.pair (.int .u8) (.pair (.int .i64) (.pair (.int .i64) (.pair (.int .i64) (.pair (.int .i64) (.pair .bool .bool)))))))) (.int .i64))), fun x => f12_palaverref01_Unpack x.1 x.2⟩)] []
theorem Cf3_palaverlaw01_WordsHeaders_ok : Cf3_palaverlaw01_WordsHeaders.Ok := mkC_ok mixed tysOk zerosOk eqsOk ⟨Sf8_palaverlaw01_works, Sf9_words_Pack, Sf10_palaverref01_Pack, Sf11_words_Unpack, Sf12_palaverref01_Unpack, trivial⟩ trivial
theorem Ef3_palaverlaw01_WordsHeaders (x : ((Int × (Int × (Int × (Int × (Int × (Int × (Bool × Bool))))))) × (Int × Int))) : evF Cf3_palaverlaw01_WordsHeaders Try.f3 69 (.pair (.agg (.pair (.int .i64) (.pair (.int .u8) (.pair (.int .i64) (.pair (.int .i64) (.pair (.int .i64) (.pair (.int .i64) (.pair .bool .bool)))))))) (.pair (.int .u64) (.int .u64))) .bool Af3_palaverlaw01_WordsHeaders x = f3_palaverlaw01_WordsHeaders x.1 x.2.1 x.2.2 := by kernel_rfl
theorem Sf3_palaverlaw01_WordsHeaders : SoundF Try.prog 3 ⟨(.pair (.agg (.pair (.int .i64) (.pair (.int .u8) (.pair (.int .i64) (.pair (.int .i64) (.pair (.int .i64) (.pair (.int .i64) (.pair .bool .bool)))))))) (.pair (.int .u64) (.int .u64))), .bool, fun x => f3_palaverlaw01_WordsHeaders x.1 x.2.1 x.2.2⟩ :=
  soundF_of Cf3_palaverlaw01_WordsHeaders_ok Try.func3 (by kernel_rfl) (by kernel_rfl) Ef3_palaverlaw01_WordsHeaders
/-- palaverpalaverlaw01.WordsRound -/
noncomputable def f4_palaverlaw01_WordsRound (x0 : (Int × (Int × (Int × (Int × (Int × (Int × (Bool × Bool)))))))) (x1 : Int) (x2 : Int) : M Bool :=
  bnd (newC 24 [.int .i64 x0.1, .int .u8 x0.2.1, .int .i64 x0.2.2.1, .int .i64 x0.2.2.2.1, .int .i64 x0.2.2.2.2.1, .int .i64 x0.2.2.2.2.2.1, .bool x0.2.2.2.2.2.2.1, .bool x0.2.2.2.2.2.2.2]) fun (p1 : Addr) =>
  bnd f8_palaverlaw01_works fun (r2 : Bool) =>
  bnd (ld (.agg (.pair (.int .i64) (.pair (.int .u8) (.pair (.int .i64) (.pair (.int .i64) (.pair (.int .i64) (.pair (.int .i64) (.pair .bool .bool)))))))) p1) fun (v3 : (Int × (Int × (Int × (Int × (Int × (Int × (Bool × Bool)))))))) =>
  bnd (f9_words_Pack v3) fun (r4 : (Int × (Int × Int))) =>
  bnd (
  cnd (r4.2.2 == (0 : Int)) (
  bnd (f11_words_Unpack r4.1 r4.2.1) fun (r6 : ((Int × (Int × (Int × (Int × (Int × (Int × (Bool × Bool))))))) × Int)) =>
  bnd (newC 24 [.int .i64 (0 : Int), .int .u8 (0 : Int), .int .i64 (0 : Int), .int .i64 (0 : Int), .int .i64 (0 : Int), .int .i64 (0 : Int), .bool false, .bool false]) fun (p7 : Addr) =>
  bnd (wrs p7 0 [.int .i64 r6.1.1, .int .u8 r6.1.2.1, .int .i64 r6.1.2.2.1, .int .i64 r6.1.2.2.2.1, .int .i64 r6.1.2.2.2.2.1, .int .i64 r6.1.2.2.2.2.2.1, .bool r6.1.2.2.2.2.2.2.1, .bool r6.1.2.2.2.2.2.2.2]) fun _ =>
  bnd (
  cnd (r6.2 != (0 : Int)) (
  ret true) (
  bnd (ld (.agg (.pair (.int .i64) (.pair (.int .u8) (.pair (.int .i64) (.pair (.int .i64) (.pair (.int .i64) (.pair (.int .i64) (.pair .bool .bool)))))))) p7) fun (v8 : (Int × (Int × (Int × (Int × (Int × (Int × (Bool × Bool)))))))) =>
  bnd (ld (.agg (.pair (.int .i64) (.pair (.int .u8) (.pair (.int .i64) (.pair (.int .i64) (.pair (.int .i64) (.pair (.int .i64) (.pair .bool .bool)))))))) p1) fun (v9 : (Int × (Int × (Int × (Int × (Int × (Int × (Bool × Bool)))))))) =>
  ret (!((v8.1 == v9.1) && ((v8.2.1 == v9.2.1) && ((v8.2.2.1 == v9.2.2.1) && ((v8.2.2.2.1 == v9.2.2.2.1) && ((v8.2.2.2.2.1 == v9.2.2.2.2.1) && ((v8.2.2.2.2.2.1 == v9.2.2.2.2.2.1) && ((v8.2.2.2.2.2.2.1 == v9.2.2.2.2.2.2.1) && (v8.2.2.2.2.2.2.2 == v9.2.2.2.2.2.2.2))))))))))) fun (b10 : Bool) =>
  cnd b10 (
  ret (Sum.inr false)) (
  ret (Sum.inl ()))) (
  ret (Sum.inl ()))) (fun
  | .inl (s5 : Unit) =>
  bnd (f11_words_Unpack x1 x2) fun (r13 : ((Int × (Int × (Int × (Int × (Int × (Int × (Bool × Bool))))))) × Int)) =>
  bnd (newC 24 [.int .i64 (0 : Int), .int .u8 (0 : Int), .int .i64 (0 : Int), .int .i64 (0 : Int), .int .i64 (0 : Int), .int .i64 (0 : Int), .bool false, .bool false]) fun (p14 : Addr) =>
  bnd (wrs p14 0 [.int .i64 r13.1.1, .int .u8 r13.1.2.1, .int .i64 r13.1.2.2.1, .int .i64 r13.1.2.2.2.1, .int .i64 r13.1.2.2.2.2.1, .int .i64 r13.1.2.2.2.2.2.1, .bool r13.1.2.2.2.2.2.2.1, .bool r13.1.2.2.2.2.2.2.2]) fun _ =>
  bnd (
  cnd (r13.2 == (0 : Int)) (
  bnd (ld (.agg (.pair (.int .i64) (.pair (.int .u8) (.pair (.int .i64) (.pair (.int .i64) (.pair (.int .i64) (.pair (.int .i64) (.pair .bool .bool)))))))) p14) fun (v16 : (Int × (Int × (Int × (Int × (Int × (Int × (Bool × Bool)))))))) =>
  bnd (f9_words_Pack v16) fun (r17 : (Int × (Int × Int))) =>
  cnd (cond (cond (r17.2.2 != (0 : Int)) true (r17.1 != x1)) true (r17.2.1 != x2)) (
  ret (Sum.inr false)) (
  ret (Sum.inl ()))) (
  ret (Sum.inl ()))) (fun
  | .inl (s15 : Unit) =>
  ret r2
  | .inr r20 => ret r20)
  | .inr r21 => ret r21)
noncomputable def Af4_palaverlaw01_WordsRound : Ann := (.two .nil (.two .nil (.two .nil (.two (.two .nil (.join [] [6, 11, 12, 27, 28, 29, 30, 31, 32, 33, 34, 35, 36, 37, 38, 39] true (.two (.two .nil (.two .nil (.two (.two .nil .nil) .nil))) .nil))) (.two .nil (.two (.two .nil (.join [] [6, 15, 16, 17, 48, 49, 50, 51, 52, 53, 54, 55, 56, 57, 58, 59, 60, 61, 62, 63, 64, 65] true (.two (.two .nil (.two .nil (.two (.two .nil .nil) .nil))) .nil))) (.two .nil .nil)))))))
noncomputable def Cf4_palaverlaw01_WordsRound : Ctx := mkC Try.prog tys zeros eqs [(8, ⟨.unit, .bool, fun _ => f8_palaverlaw01_works⟩), (9, ⟨(.agg (.pair (.int .i64) (.pair (.int .u8) (.pair (.int .i64) (.pair (.int .i64) (.pair (.int .i64) (.pair (.int .i64) (.pair .bool .bool)))))))), (.tup (.pair (.int .u64) (.pair (.int .u64) (.int .i64)))), fun x => f9_words_Pack x⟩), (11, ⟨(.pair (.int .u64) (.int .u64)), (.tup (.pair (.agg (.pair (.int .i64) (.pair (.int .u8) (.pair (.int .i64) (.pair (.int .i64) (.pair (.int .i64) (.pair (.int .i64) (.pair .bool .bool)))))))) (.int .i64))), fun x => f11_words_Unpack x.1 x.2⟩)] []
theorem Cf4_palaverlaw01_WordsRound_ok : Cf4_palaverlaw01_WordsRound.Ok := mkC_ok mixed tysOk zerosOk eqsOk ⟨Sf8_palaverlaw01_works, Sf9_words_Pack, Sf11_words_Unpack, trivial⟩ trivial
theorem Ef4_palaverlaw01_WordsRound (x : ((Int × (Int × (Int × (Int × (Int × (Int × (Bool × Bool))))))) × (Int × Int))) : evF Cf4_palaverlaw01_WordsRound Try.f4 67 (.pair (.agg (.pair (.int .i64) (.pair (.int .u8) (.pair (.int .i64) (.pair (.int .i64) (.pair (.int .i64) (.pair (.int .i64) (.pair .bool .bool)))))))) (.pair (.int .u64) (.int .u64))) .bool Af4_palaverlaw01_WordsRound x = f4_palaverlaw01_WordsRound x.1 x.2.1 x.2.2 := by kernel_rfl
theorem Sf4_palaverlaw01_WordsRound : SoundF Try.prog 4 ⟨(.pair (.agg (.pair (.int .i64) (.pair (.int .u8) (.pair (.int .i64) (.pair (.int .i64) (.pair (.int .i64) (.pair (.int .i64) (.pair .bool .bool)))))))) (.pair (.int .u64) (.int .u64))), .bool, fun x => f4_palaverlaw01_WordsRound x.1 x.2.1 x.2.2⟩ :=
  soundF_of Cf4_palaverlaw01_WordsRound_ok Try.func4 (by kernel_rfl) (by kernel_rfl) Ef4_palaverlaw01_WordsRound
/-- palaverpalaverlaw01.WordsOrder -/
noncomputable def f5_palaverlaw01_WordsOrder (x0 : Int) (x1 : Int) : M Bool :=
  bnd f8_palaverlaw01_works fun (r1 : Bool) =>
  cnd (cond (!(Gf13_words_Small x0).2) true (!(Gf13_words_Small x1).2)) (
  ret r1) (
  cnd (cond (!((decide (x0 < x1)) == (decide ((IntKind.wrap .i64 (Gf13_words_Small x0).1) < (IntKind.wrap .i64 (Gf13_words_Small x1).1))))) true (!((x0 == x1) == ((Gf13_words_Small x0).1 == (Gf13_words_Small x1).1)))) (
  ret false) (
  ret (cond (cond r1 ((Gf13_words_Small (IntKind.wrap .i64 (x0 + x1))).2 == (cond (decide ((IntKind.wrap .i64 (x0 + x1)) ≥ (-1152921504606846976 : Int))) (decide ((IntKind.wrap .i64 (x0 + x1)) ≤ (1152921504606846975 : Int))) false)) false) (cond (!(Gf13_words_Small (IntKind.wrap .i64 (x0 + x1))).2) true ((Gf13_words_Small (IntKind.wrap .i64 (x0 + x1))).1 == (IntKind.wrap .u64 ((IntKind.wrap .u64 ((Gf13_words_Small x0).1 + (Gf13_words_Small x1).1)) - (1 : Int))))) false)))
noncomputable def Af5_palaverlaw01_WordsOrder : Ann := (.two .nil (.two .nil (.two .nil (.two .nil (.two (.two .nil (.two (.two .nil .nil) .nil)) (.two (.two .nil (.two (.two .nil .nil) .nil)) (.two .nil (.two .nil .nil))))))))
noncomputable def Cf5_palaverlaw01_WordsOrder : Ctx := mkC Try.prog tys zeros eqs [(8, ⟨.unit, .bool, fun _ => f8_palaverlaw01_works⟩)] [(13, ⟨(.int .i64), (.tup (.pair (.int .u64) .bool)), fun x => Gf13_words_Small x⟩)]
theorem Cf5_palaverlaw01_WordsOrder_ok : Cf5_palaverlaw01_WordsOrder.Ok := mkC_ok mixed tysOk zerosOk eqsOk ⟨Sf8_palaverlaw01_works, trivial⟩ ⟨Pf13_words_Small, trivial⟩
theorem Ef5_palaverlaw01_WordsOrder (x : (Int × Int)) : evF Cf5_palaverlaw01_WordsOrder Try.f5 82 (.pair (.int .i64) (.int .i64)) .bool Af5_palaverlaw01_WordsOrder x = f5_palaverlaw01_WordsOrder x.1 x.2 := by kernel_rfl
theorem Sf5_palaverlaw01_WordsOrder : SoundF Try.prog 5 ⟨(.pair (.int .i64) (.int .i64)), .bool, fun x => f5_palaverlaw01_WordsOrder x.1 x.2⟩ :=
  soundF_of Cf5_palaverlaw01_WordsOrder_ok Try.func5 (by kernel_rfl) (by kernel_rfl) Ef5_palaverlaw01_WordsOrder
noncomputable def Gf14_palaverref01_Small (x0 : Int) : (Int × Bool) :=
  (cond (cond (decide (x0 < (-1152921504606846976 : Int))) true (decide (x0 > (1152921504606846975 : Int)))) ((0 : Int), false) ((IntKind.wrap .u64 (IntKind.wrap .i64 ((IntKind.wrap .i64 ((8 : Int) * x0)) + (1 : Int)))), true))
/-- palaverpalaverref01.Small -/
noncomputable def f14_palaverref01_Small (x0 : Int) : M (Int × Bool) :=
  cnd (cond (decide (x0 < (-1152921504606846976 : Int))) true (decide (x0 > (1152921504606846975 : Int)))) (
  ret ((0 : Int), false)) (
  ret ((IntKind.wrap .u64 (IntKind.wrap .i64 ((IntKind.wrap .i64 ((8 : Int) * x0)) + (1 : Int)))), true))
noncomputable def Af14_palaverref01_Small : Ann := (.two .nil (.two (.two .nil (.two (.two .nil .nil) .nil)) (.two .nil .nil)))
noncomputable def Cf14_palaverref01_Small : Ctx := mkC Try.prog tys zeros eqs [] []
theorem Cf14_palaverref01_Small_ok : Cf14_palaverref01_Small.Ok := mkC_ok mixed tysOk zerosOk eqsOk trivial trivial
theorem Ef14_palaverref01_Small (x : Int) : evF Cf14_palaverref01_Small Try.f14 14 (.int .i64) (.tup (.pair (.int .u64) .bool)) Af14_palaverref01_Small x = f14_palaverref01_Small x := by kernel_rfl
theorem Sf14_palaverref01_Small : SoundF Try.prog 14 ⟨(.int .i64), (.tup (.pair (.int .u64) .bool)), fun x => f14_palaverref01_Small x⟩ :=
  soundF_of Cf14_palaverref01_Small_ok Try.func14 (by kernel_rfl) (by kernel_rfl) Ef14_palaverref01_Small
theorem Hf14_palaverref01_Small (x0 : Int) : f14_palaverref01_Small x0 = ret (Gf14_palaverref01_Small x0) := by
  simp only [f14_palaverref01_Small, Gf14_palaverref01_Small, bnd_ret, cnd_ret, bnd_cnd]
theorem Pf14_palaverref01_Small : SoundP Try.prog 14 ⟨(.int .i64), (.tup (.pair (.int .u64) .bool)), fun x => Gf14_palaverref01_Small x⟩ := soundP_of Sf14_palaverref01_Small fun x => Hf14_palaverref01_Small x
noncomputable def Gf16_palaverref01_Char (x0 : Int) : (Int × Bool) :=
  (cond (cond (decide (x0 < (0 : Int))) true (decide (x0 > (2097151 : Int)))) ((0 : Int), false) ((IntKind.wrap .u64 (IntKind.wrap .i64 ((IntKind.wrap .i64 ((8 : Int) * x0)) + (2 : Int)))), true))
/-- palaverpalaverref01.Char -/
noncomputable def f16_palaverref01_Char (x0 : Int) : M (Int × Bool) :=
  cnd (cond (decide (x0 < (0 : Int))) true (decide (x0 > (2097151 : Int)))) (
  ret ((0 : Int), false)) (
  ret ((IntKind.wrap .u64 (IntKind.wrap .i64 ((IntKind.wrap .i64 ((8 : Int) * x0)) + (2 : Int)))), true))
noncomputable def Af16_palaverref01_Char : Ann := (.two .nil (.two (.two .nil (.two (.two .nil .nil) .nil)) (.two .nil .nil)))
noncomputable def Cf16_palaverref01_Char : Ctx := mkC Try.prog tys zeros eqs [] []
theorem Cf16_palaverref01_Char_ok : Cf16_palaverref01_Char.Ok := mkC_ok mixed tysOk zerosOk eqsOk trivial trivial
theorem Ef16_palaverref01_Char (x : Int) : evF Cf16_palaverref01_Char Try.f16 14 (.int .i64) (.tup (.pair (.int .u64) .bool)) Af16_palaverref01_Char x = f16_palaverref01_Char x := by kernel_rfl
theorem Sf16_palaverref01_Char : SoundF Try.prog 16 ⟨(.int .i64), (.tup (.pair (.int .u64) .bool)), fun x => f16_palaverref01_Char x⟩ :=
  soundF_of Cf16_palaverref01_Char_ok Try.func16 (by kernel_rfl) (by kernel_rfl) Ef16_palaverref01_Char
theorem Hf16_palaverref01_Char (x0 : Int) : f16_palaverref01_Char x0 = ret (Gf16_palaverref01_Char x0) := by
  simp only [f16_palaverref01_Char, Gf16_palaverref01_Char, bnd_ret, cnd_ret, bnd_cnd]
theorem Pf16_palaverref01_Char : SoundP Try.prog 16 ⟨(.int .i64), (.tup (.pair (.int .u64) .bool)), fun x => Gf16_palaverref01_Char x⟩ := soundP_of Sf16_palaverref01_Char fun x => Hf16_palaverref01_Char x
noncomputable def Gf18_palaverref01_Object (x0 : Int) : (Int × Bool) :=
  (cond (cond (decide (x0 < (1 : Int))) true (decide (x0 > (268435455 : Int)))) ((0 : Int), false) ((IntKind.wrap .u64 (IntKind.wrap .i64 ((8 : Int) * x0))), true))
/-- palaverpalaverref01.Object -/
noncomputable def f18_palaverref01_Object (x0 : Int) : M (Int × Bool) :=
  cnd (cond (decide (x0 < (1 : Int))) true (decide (x0 > (268435455 : Int)))) (
  ret ((0 : Int), false)) (
  ret ((IntKind.wrap .u64 (IntKind.wrap .i64 ((8 : Int) * x0))), true))
noncomputable def Af18_palaverref01_Object : Ann := (.two .nil (.two (.two .nil (.two (.two .nil .nil) .nil)) (.two .nil .nil)))
noncomputable def Cf18_palaverref01_Object : Ctx := mkC Try.prog tys zeros eqs [] []
theorem Cf18_palaverref01_Object_ok : Cf18_palaverref01_Object.Ok := mkC_ok mixed tysOk zerosOk eqsOk trivial trivial
theorem Ef18_palaverref01_Object (x : Int) : evF Cf18_palaverref01_Object Try.f18 13 (.int .i64) (.tup (.pair (.int .u64) .bool)) Af18_palaverref01_Object x = f18_palaverref01_Object x := by kernel_rfl
theorem Sf18_palaverref01_Object : SoundF Try.prog 18 ⟨(.int .i64), (.tup (.pair (.int .u64) .bool)), fun x => f18_palaverref01_Object x⟩ :=
  soundF_of Cf18_palaverref01_Object_ok Try.func18 (by kernel_rfl) (by kernel_rfl) Ef18_palaverref01_Object
theorem Hf18_palaverref01_Object (x0 : Int) : f18_palaverref01_Object x0 = ret (Gf18_palaverref01_Object x0) := by
  simp only [f18_palaverref01_Object, Gf18_palaverref01_Object, bnd_ret, cnd_ret, bnd_cnd]
theorem Pf18_palaverref01_Object : SoundP Try.prog 18 ⟨(.int .i64), (.tup (.pair (.int .u64) .bool)), fun x => Gf18_palaverref01_Object x⟩ := soundP_of Sf18_palaverref01_Object fun x => Hf18_palaverref01_Object x
noncomputable def Gf20_palaverref01_Tag (x0 : Int) : Int :=
  (cond (x0 == (0 : Int)) (0 : Int) (cond ((Int.tmod x0 (8 : Int)) == (1 : Int)) (1 : Int) (cond (cond ((Int.tmod x0 (8 : Int)) == (2 : Int)) (decide ((IntKind.wrap .u64 (Int.tdiv x0 (8 : Int))) ≤ (2097151 : Int))) false) (2 : Int) (cond (cond ((Int.tmod x0 (8 : Int)) == (0 : Int)) (decide ((IntKind.wrap .u64 (Int.tdiv x0 (8 : Int))) ≤ (268435455 : Int))) false) (3 : Int) (4 : Int)))))
/-- palaverpalaverref01.Tag -/
noncomputable def f20_palaverref01_Tag (x0 : Int) : M Int :=
  cnd (x0 == (0 : Int)) (
  ret (0 : Int)) (
  cnd ((Int.tmod x0 (8 : Int)) == (1 : Int)) (
  ret (1 : Int)) (
  cnd (cond ((Int.tmod x0 (8 : Int)) == (2 : Int)) (decide ((IntKind.wrap .u64 (Int.tdiv x0 (8 : Int))) ≤ (2097151 : Int))) false) (
  ret (2 : Int)) (
  cnd (cond ((Int.tmod x0 (8 : Int)) == (0 : Int)) (decide ((IntKind.wrap .u64 (Int.tdiv x0 (8 : Int))) ≤ (268435455 : Int))) false) (
  ret (3 : Int)) (
  ret (4 : Int)))))
noncomputable def Af20_palaverref01_Tag : Ann := (.two .nil (.two (.one (.two .nil (.two (.two .nil .nil) (.two .nil (.two (.two .nil .nil) (.two .nil (.two (.two .nil .nil) (.two .nil (.two (.two .nil .nil) .nil))))))))) (.two .nil .nil)))
noncomputable def Cf20_palaverref01_Tag : Ctx := mkC Try.prog tys zeros eqs [] []
theorem Cf20_palaverref01_Tag_ok : Cf20_palaverref01_Tag.Ok := mkC_ok mixed tysOk zerosOk eqsOk trivial trivial
theorem Ef20_palaverref01_Tag (x : Int) : evF Cf20_palaverref01_Tag Try.f20 28 (.int .u64) (.int .u8) Af20_palaverref01_Tag x = f20_palaverref01_Tag x := by kernel_rfl
theorem Sf20_palaverref01_Tag : SoundF Try.prog 20 ⟨(.int .u64), (.int .u8), fun x => f20_palaverref01_Tag x⟩ :=
  soundF_of Cf20_palaverref01_Tag_ok Try.func20 (by kernel_rfl) (by kernel_rfl) Ef20_palaverref01_Tag
theorem Hf20_palaverref01_Tag (x0 : Int) : f20_palaverref01_Tag x0 = ret (Gf20_palaverref01_Tag x0) := by
  simp only [f20_palaverref01_Tag, Gf20_palaverref01_Tag, bnd_ret, cnd_ret, bnd_cnd]
theorem Pf20_palaverref01_Tag : SoundP Try.prog 20 ⟨(.int .u64), (.int .u8), fun x => Gf20_palaverref01_Tag x⟩ := soundP_of Sf20_palaverref01_Tag fun x => Hf20_palaverref01_Tag x
noncomputable def Gf21_words_SmallOf (x0 : Int) : (Int × Bool) :=
  (cond ((bAnd .u64 x0 (7 : Int)) != (1 : Int)) ((0 : Int), false) ((shrI .i64 (IntKind.wrap .i64 x0) 3), true))
/-- palaverwords.SmallOf -/
noncomputable def f21_words_SmallOf (x0 : Int) : M (Int × Bool) :=
  cnd ((bAnd .u64 x0 (7 : Int)) != (1 : Int)) (
  ret ((0 : Int), false)) (
  ret ((shrI .i64 (IntKind.wrap .i64 x0) 3), true))
noncomputable def Af21_words_SmallOf : Ann := (.two .nil (.two (.two .nil (.two (.two .nil .nil) .nil)) (.two .nil .nil)))
noncomputable def Cf21_words_SmallOf : Ctx := mkC Try.prog tys zeros eqs [] []
theorem Cf21_words_SmallOf_ok : Cf21_words_SmallOf.Ok := mkC_ok mixed tysOk zerosOk eqsOk trivial trivial
theorem Ef21_words_SmallOf (x : Int) : evF Cf21_words_SmallOf Try.f21 10 (.int .u64) (.tup (.pair (.int .i64) .bool)) Af21_words_SmallOf x = f21_words_SmallOf x := by kernel_rfl
theorem Sf21_words_SmallOf : SoundF Try.prog 21 ⟨(.int .u64), (.tup (.pair (.int .i64) .bool)), fun x => f21_words_SmallOf x⟩ :=
  soundF_of Cf21_words_SmallOf_ok Try.func21 (by kernel_rfl) (by kernel_rfl) Ef21_words_SmallOf
theorem Hf21_words_SmallOf (x0 : Int) : f21_words_SmallOf x0 = ret (Gf21_words_SmallOf x0) := by
  simp only [f21_words_SmallOf, Gf21_words_SmallOf, bnd_ret, cnd_ret, bnd_cnd]
theorem Pf21_words_SmallOf : SoundP Try.prog 21 ⟨(.int .u64), (.tup (.pair (.int .i64) .bool)), fun x => Gf21_words_SmallOf x⟩ := soundP_of Sf21_words_SmallOf fun x => Hf21_words_SmallOf x
noncomputable def Gf22_palaverref01_SmallOf (x0 : Int) : (Int × Bool) :=
  (cond ((Int.tmod x0 (8 : Int)) != (1 : Int)) ((0 : Int), false) ((fun (s1 : Int) => (s1, true)) (cond (decide ((IntKind.wrap .i64 (IntKind.wrap .u64 (Int.tdiv x0 (8 : Int)))) > (1152921504606846975 : Int))) (IntKind.wrap .i64 ((IntKind.wrap .i64 (IntKind.wrap .u64 (Int.tdiv x0 (8 : Int)))) - (2305843009213693952 : Int))) (IntKind.wrap .i64 (IntKind.wrap .u64 (Int.tdiv x0 (8 : Int)))))))
/-- palaverpalaverref01.SmallOf -/
noncomputable def f22_palaverref01_SmallOf (x0 : Int) : M (Int × Bool) :=
  cnd ((Int.tmod x0 (8 : Int)) != (1 : Int)) (
  ret ((0 : Int), false)) (
  bnd (
  cnd (decide ((IntKind.wrap .i64 (IntKind.wrap .u64 (Int.tdiv x0 (8 : Int)))) > (1152921504606846975 : Int))) (
  ret (IntKind.wrap .i64 ((IntKind.wrap .i64 (IntKind.wrap .u64 (Int.tdiv x0 (8 : Int)))) - (2305843009213693952 : Int)))) (
  ret (IntKind.wrap .i64 (IntKind.wrap .u64 (Int.tdiv x0 (8 : Int)))))) fun (s1 : Int) =>
  ret (s1, true))
noncomputable def Af22_palaverref01_SmallOf : Ann := (.two .nil (.two (.two .nil (.two (.two .nil .nil) .nil)) (.two .nil (.two (.two .nil (.join [(4, (.int .i64))] [13, 14] false (.two .nil .nil))) (.two .nil .nil)))))
noncomputable def Cf22_palaverref01_SmallOf : Ctx := mkC Try.prog tys zeros eqs [] []
theorem Cf22_palaverref01_SmallOf_ok : Cf22_palaverref01_SmallOf.Ok := mkC_ok mixed tysOk zerosOk eqsOk trivial trivial
theorem Ef22_palaverref01_SmallOf (x : Int) : evF Cf22_palaverref01_SmallOf Try.f22 16 (.int .u64) (.tup (.pair (.int .i64) .bool)) Af22_palaverref01_SmallOf x = f22_palaverref01_SmallOf x := by kernel_rfl
theorem Sf22_palaverref01_SmallOf : SoundF Try.prog 22 ⟨(.int .u64), (.tup (.pair (.int .i64) .bool)), fun x => f22_palaverref01_SmallOf x⟩ :=
  soundF_of Cf22_palaverref01_SmallOf_ok Try.func22 (by kernel_rfl) (by kernel_rfl) Ef22_palaverref01_SmallOf
theorem Hf22_palaverref01_SmallOf (x0 : Int) : f22_palaverref01_SmallOf x0 = ret (Gf22_palaverref01_SmallOf x0) := by
  simp only [f22_palaverref01_SmallOf, Gf22_palaverref01_SmallOf, bnd_ret, cnd_ret, bnd_cnd]
theorem Pf22_palaverref01_SmallOf : SoundP Try.prog 22 ⟨(.int .u64), (.tup (.pair (.int .i64) .bool)), fun x => Gf22_palaverref01_SmallOf x⟩ := soundP_of Sf22_palaverref01_SmallOf fun x => Hf22_palaverref01_SmallOf x
/-- palaverwords.of -/
noncomputable def f33_words_of (x0 : Int) (x1 : Int) : M (Int × Bool) :=
  bnd (f19_words_Tag x0) fun (r1 : Int) =>
  cnd (r1 != x1) (
  ret ((0 : Int), false)) (
  ret ((IntKind.wrap .i64 (shrI .u64 x0 3)), true))
noncomputable def Af33_words_of : Ann := (.two .nil (.two (.two .nil (.two (.two .nil .nil) .nil)) (.two .nil .nil)))
noncomputable def Cf33_words_of : Ctx := mkC Try.prog tys zeros eqs [(19, ⟨(.int .u64), (.int .u8), fun x => f19_words_Tag x⟩)] []
theorem Cf33_words_of_ok : Cf33_words_of.Ok := mkC_ok mixed tysOk zerosOk eqsOk ⟨Sf19_words_Tag, trivial⟩ trivial
theorem Ef33_words_of (x : (Int × Int)) : evF Cf33_words_of Try.f33 13 (.pair (.int .u64) (.int .u8)) (.tup (.pair (.int .i64) .bool)) Af33_words_of x = f33_words_of x.1 x.2 := by kernel_rfl
theorem Sf33_words_of : SoundF Try.prog 33 ⟨(.pair (.int .u64) (.int .u8)), (.tup (.pair (.int .i64) .bool)), fun x => f33_words_of x.1 x.2⟩ :=
  soundF_of Cf33_words_of_ok Try.func33 (by kernel_rfl) (by kernel_rfl) Ef33_words_of
/-- palaverwords.CharOf -/
noncomputable def f23_words_CharOf (x0 : Int) : M (Int × Bool) :=
  bnd (f33_words_of x0 (2 : Int)) fun (r1 : (Int × Bool)) =>
  ret (r1.1, r1.2)
noncomputable def Af23_words_CharOf : Ann := (.two .nil (.two .nil .nil))
noncomputable def Cf23_words_CharOf : Ctx := mkC Try.prog tys zeros eqs [(33, ⟨(.pair (.int .u64) (.int .u8)), (.tup (.pair (.int .i64) .bool)), fun x => f33_words_of x.1 x.2⟩)] []
theorem Cf23_words_CharOf_ok : Cf23_words_CharOf.Ok := mkC_ok mixed tysOk zerosOk eqsOk ⟨Sf33_words_of, trivial⟩ trivial
theorem Ef23_words_CharOf (x : Int) : evF Cf23_words_CharOf Try.f23 8 (.int .u64) (.tup (.pair (.int .i64) .bool)) Af23_words_CharOf x = f23_words_CharOf x := by kernel_rfl
theorem Sf23_words_CharOf : SoundF Try.prog 23 ⟨(.int .u64), (.tup (.pair (.int .i64) .bool)), fun x => f23_words_CharOf x⟩ :=
  soundF_of Cf23_words_CharOf_ok Try.func23 (by kernel_rfl) (by kernel_rfl) Ef23_words_CharOf
noncomputable def Gf24_palaverref01_CharOf (x0 : Int) : (Int × Bool) :=
  (cond ((Gf20_palaverref01_Tag x0) != (2 : Int)) ((0 : Int), false) ((IntKind.wrap .i64 (IntKind.wrap .u64 (Int.tdiv x0 (8 : Int)))), true))
/-- palaverpalaverref01.CharOf -/
noncomputable def f24_palaverref01_CharOf (x0 : Int) : M (Int × Bool) :=
  cnd ((Gf20_palaverref01_Tag x0) != (2 : Int)) (
  ret ((0 : Int), false)) (
  ret ((IntKind.wrap .i64 (IntKind.wrap .u64 (Int.tdiv x0 (8 : Int)))), true))
noncomputable def Af24_palaverref01_CharOf : Ann := (.two .nil (.two (.two .nil (.two (.two .nil .nil) .nil)) (.two .nil .nil)))
noncomputable def Cf24_palaverref01_CharOf : Ctx := mkC Try.prog tys zeros eqs [] [(20, ⟨(.int .u64), (.int .u8), fun x => Gf20_palaverref01_Tag x⟩)]
theorem Cf24_palaverref01_CharOf_ok : Cf24_palaverref01_CharOf.Ok := mkC_ok mixed tysOk zerosOk eqsOk trivial ⟨Pf20_palaverref01_Tag, trivial⟩
theorem Ef24_palaverref01_CharOf (x : Int) : evF Cf24_palaverref01_CharOf Try.f24 10 (.int .u64) (.tup (.pair (.int .i64) .bool)) Af24_palaverref01_CharOf x = f24_palaverref01_CharOf x := by kernel_rfl
theorem Sf24_palaverref01_CharOf : SoundF Try.prog 24 ⟨(.int .u64), (.tup (.pair (.int .i64) .bool)), fun x => f24_palaverref01_CharOf x⟩ :=
  soundF_of Cf24_palaverref01_CharOf_ok Try.func24 (by kernel_rfl) (by kernel_rfl) Ef24_palaverref01_CharOf
theorem Hf24_palaverref01_CharOf (x0 : Int) : f24_palaverref01_CharOf x0 = ret (Gf24_palaverref01_CharOf x0) := by
  simp only [f24_palaverref01_CharOf, Gf24_palaverref01_CharOf, bnd_ret, cnd_ret, bnd_cnd]
theorem Pf24_palaverref01_CharOf : SoundP Try.prog 24 ⟨(.int .u64), (.tup (.pair (.int .i64) .bool)), fun x => Gf24_palaverref01_CharOf x⟩ := soundP_of Sf24_palaverref01_CharOf fun x => Hf24_palaverref01_CharOf x
/-- palaverwords.WordOf -/
noncomputable def f25_words_WordOf (x0 : Int) : M (Int × Bool) :=
  bnd (f33_words_of x0 (3 : Int)) fun (r1 : (Int × Bool)) =>
  ret (r1.1, r1.2)
noncomputable def Af25_words_WordOf : Ann := (.two .nil (.two .nil .nil))
noncomputable def Cf25_words_WordOf : Ctx := mkC Try.prog tys zeros eqs [(33, ⟨(.pair (.int .u64) (.int .u8)), (.tup (.pair (.int .i64) .bool)), fun x => f33_words_of x.1 x.2⟩)] []
theorem Cf25_words_WordOf_ok : Cf25_words_WordOf.Ok := mkC_ok mixed tysOk zerosOk eqsOk ⟨Sf33_words_of, trivial⟩ trivial
theorem Ef25_words_WordOf (x : Int) : evF Cf25_words_WordOf Try.f25 8 (.int .u64) (.tup (.pair (.int .i64) .bool)) Af25_words_WordOf x = f25_words_WordOf x := by kernel_rfl
theorem Sf25_words_WordOf : SoundF Try.prog 25 ⟨(.int .u64), (.tup (.pair (.int .i64) .bool)), fun x => f25_words_WordOf x⟩ :=
  soundF_of Cf25_words_WordOf_ok Try.func25 (by kernel_rfl) (by kernel_rfl) Ef25_words_WordOf
noncomputable def Gf26_palaverref01_WordOf (x0 : Int) : (Int × Bool) :=
  (cond ((Gf20_palaverref01_Tag x0) != (3 : Int)) ((0 : Int), false) ((IntKind.wrap .i64 (IntKind.wrap .u64 (Int.tdiv x0 (8 : Int)))), true))
/-- palaverpalaverref01.WordOf -/
noncomputable def f26_palaverref01_WordOf (x0 : Int) : M (Int × Bool) :=
  cnd ((Gf20_palaverref01_Tag x0) != (3 : Int)) (
  ret ((0 : Int), false)) (
  ret ((IntKind.wrap .i64 (IntKind.wrap .u64 (Int.tdiv x0 (8 : Int)))), true))
noncomputable def Af26_palaverref01_WordOf : Ann := (.two .nil (.two (.two .nil (.two (.two .nil .nil) .nil)) (.two .nil .nil)))
noncomputable def Cf26_palaverref01_WordOf : Ctx := mkC Try.prog tys zeros eqs [] [(20, ⟨(.int .u64), (.int .u8), fun x => Gf20_palaverref01_Tag x⟩)]
theorem Cf26_palaverref01_WordOf_ok : Cf26_palaverref01_WordOf.Ok := mkC_ok mixed tysOk zerosOk eqsOk trivial ⟨Pf20_palaverref01_Tag, trivial⟩
theorem Ef26_palaverref01_WordOf (x : Int) : evF Cf26_palaverref01_WordOf Try.f26 10 (.int .u64) (.tup (.pair (.int .i64) .bool)) Af26_palaverref01_WordOf x = f26_palaverref01_WordOf x := by kernel_rfl
theorem Sf26_palaverref01_WordOf : SoundF Try.prog 26 ⟨(.int .u64), (.tup (.pair (.int .i64) .bool)), fun x => f26_palaverref01_WordOf x⟩ :=
  soundF_of Cf26_palaverref01_WordOf_ok Try.func26 (by kernel_rfl) (by kernel_rfl) Ef26_palaverref01_WordOf
theorem Hf26_palaverref01_WordOf (x0 : Int) : f26_palaverref01_WordOf x0 = ret (Gf26_palaverref01_WordOf x0) := by
  simp only [f26_palaverref01_WordOf, Gf26_palaverref01_WordOf, bnd_ret, cnd_ret, bnd_cnd]
theorem Pf26_palaverref01_WordOf : SoundP Try.prog 26 ⟨(.int .u64), (.tup (.pair (.int .i64) .bool)), fun x => Gf26_palaverref01_WordOf x⟩ := soundP_of Sf26_palaverref01_WordOf fun x => Hf26_palaverref01_WordOf x
/-- palaverpalaverlaw01.WordsOops -/
noncomputable def f6_palaverlaw01_WordsOops (x0 : Int) (x1 : Int) (x2 : Int) (x3 : Int) : M Bool :=
  bnd f8_palaverlaw01_works fun (r1 : Bool) =>
  bnd (f19_words_Tag x3) fun (r2 : Int) =>
  bnd (f23_words_CharOf x3) fun (r3 : (Int × Bool)) =>
  bnd (f25_words_WordOf x3) fun (r4 : (Int × Bool)) =>
  ret (cond (cond (cond (cond (cond (cond (cond (cond r1 (cond ((Gf13_words_Small x0).1 == (Gf14_palaverref01_Small x0).1) ((Gf13_words_Small x0).2 == (Gf14_palaverref01_Small x0).2) false) false) (cond ((Gf15_words_Char x1).1 == (Gf16_palaverref01_Char x1).1) ((Gf15_words_Char x1).2 == (Gf16_palaverref01_Char x1).2) false) false) (cond ((Gf17_words_Object x2).1 == (Gf18_palaverref01_Object x2).1) ((Gf17_words_Object x2).2 == (Gf18_palaverref01_Object x2).2) false) false) (r2 == (Gf20_palaverref01_Tag x3)) false) (cond ((Gf21_words_SmallOf x3).1 == (Gf22_palaverref01_SmallOf x3).1) ((Gf21_words_SmallOf x3).2 == (Gf22_palaverref01_SmallOf x3).2) false) false) (cond (r3.1 == (Gf24_palaverref01_CharOf x3).1) (r3.2 == (Gf24_palaverref01_CharOf x3).2) false) false) (r4.1 == (Gf26_palaverref01_WordOf x3).1) false) (r4.2 == (Gf26_palaverref01_WordOf x3).2) false)
noncomputable def Af6_palaverlaw01_WordsOops : Ann := (.two .nil (.two .nil (.two .nil (.two .nil (.two .nil (.two .nil (.two .nil (.two .nil (.two .nil (.two .nil (.two .nil (.two .nil (.two .nil (.two .nil (.two .nil (.two .nil (.two .nil (.two .nil (.two .nil (.two .nil (.two .nil (.two .nil .nil))))))))))))))))))))))
noncomputable def Cf6_palaverlaw01_WordsOops : Ctx := mkC Try.prog tys zeros eqs [(8, ⟨.unit, .bool, fun _ => f8_palaverlaw01_works⟩), (19, ⟨(.int .u64), (.int .u8), fun x => f19_words_Tag x⟩), (23, ⟨(.int .u64), (.tup (.pair (.int .i64) .bool)), fun x => f23_words_CharOf x⟩), (25, ⟨(.int .u64), (.tup (.pair (.int .i64) .bool)), fun x => f25_words_WordOf x⟩)] [(13, ⟨(.int .i64), (.tup (.pair (.int .u64) .bool)), fun x => Gf13_words_Small x⟩), (14, ⟨(.int .i64), (.tup (.pair (.int .u64) .bool)), fun x => Gf14_palaverref01_Small x⟩), (15, ⟨(.int .i64), (.tup (.pair (.int .u64) .bool)), fun x => Gf15_words_Char x⟩), (16, ⟨(.int .i64), (.tup (.pair (.int .u64) .bool)), fun x => Gf16_palaverref01_Char x⟩), (17, ⟨(.int .i64), (.tup (.pair (.int .u64) .bool)), fun x => Gf17_words_Object x⟩), (18, ⟨(.int .i64), (.tup (.pair (.int .u64) .bool)), fun x => Gf18_palaverref01_Object x⟩), (20, ⟨(.int .u64), (.int .u8), fun x => Gf20_palaverref01_Tag x⟩), (21, ⟨(.int .u64), (.tup (.pair (.int .i64) .bool)), fun x => Gf21_words_SmallOf x⟩), (22, ⟨(.int .u64), (.tup (.pair (.int .i64) .bool)), fun x => Gf22_palaverref01_SmallOf x⟩), (24, ⟨(.int .u64), (.tup (.pair (.int .i64) .bool)), fun x => Gf24_palaverref01_CharOf x⟩), (26, ⟨(.int .u64), (.tup (.pair (.int .i64) .bool)), fun x => Gf26_palaverref01_WordOf x⟩)]
theorem Cf6_palaverlaw01_WordsOops_ok : Cf6_palaverlaw01_WordsOops.Ok := mkC_ok mixed tysOk zerosOk eqsOk ⟨Sf8_palaverlaw01_works, Sf19_words_Tag, Sf23_words_CharOf, Sf25_words_WordOf, trivial⟩ ⟨Pf13_words_Small, Pf14_palaverref01_Small, Pf15_words_Char, Pf16_palaverref01_Char, Pf17_words_Object, Pf18_palaverref01_Object, Pf20_palaverref01_Tag, Pf21_words_SmallOf, Pf22_palaverref01_SmallOf, Pf24_palaverref01_CharOf, Pf26_palaverref01_WordOf, trivial⟩
theorem Ef6_palaverlaw01_WordsOops (x : (Int × (Int × (Int × Int)))) : evF Cf6_palaverlaw01_WordsOops Try.f6 161 (.pair (.int .i64) (.pair (.int .i64) (.pair (.int .i64) (.int .u64)))) .bool Af6_palaverlaw01_WordsOops x = f6_palaverlaw01_WordsOops x.1 x.2.1 x.2.2.1 x.2.2.2 := by kernel_rfl
theorem Sf6_palaverlaw01_WordsOops : SoundF Try.prog 6 ⟨(.pair (.int .i64) (.pair (.int .i64) (.pair (.int .i64) (.int .u64)))), .bool, fun x => f6_palaverlaw01_WordsOops x.1 x.2.1 x.2.2.1 x.2.2.2⟩ :=
  soundF_of Cf6_palaverlaw01_WordsOops_ok Try.func6 (by kernel_rfl) (by kernel_rfl) Ef6_palaverlaw01_WordsOops
/-- palaverpalaverlaw01.WordsBack -/
noncomputable def f7_palaverlaw01_WordsBack (x0 : Int) (x1 : Int) (x2 : Int) (x3 : Int) : M Bool :=
  bnd f8_palaverlaw01_works fun (r1 : Bool) =>
  cnd (cond (cond (!((Gf13_words_Small x0).2 == (Gf21_words_SmallOf ((Gf13_words_Small x0).1)).2)) true (cond (Gf13_words_Small x0).2 ((Gf21_words_SmallOf ((Gf13_words_Small x0).1)).1 != x0) false)) true (!((Gf13_words_Small x0).2 == (cond (decide (x0 ≥ (-1152921504606846976 : Int))) (decide (x0 ≤ (1152921504606846975 : Int))) false)))) (
  ret false) (
  bnd (f23_words_CharOf ((Gf15_words_Char x1).1)) fun (r2 : (Int × Bool)) =>
  cnd (cond (!((Gf15_words_Char x1).2 == r2.2)) true (cond (Gf15_words_Char x1).2 (r2.1 != x1) false)) (
  ret false) (
  bnd (f25_words_WordOf ((Gf17_words_Object x2).1)) fun (r3 : (Int × Bool)) =>
  cnd (cond (!((Gf17_words_Object x2).2 == r3.2)) true (cond (Gf17_words_Object x2).2 (r3.1 != x2) false)) (
  ret false) (
  bnd (
  cnd ((Gf21_words_SmallOf x3).2) (
  cnd (cond (!(Gf13_words_Small ((Gf21_words_SmallOf x3).1)).2) true ((Gf13_words_Small ((Gf21_words_SmallOf x3).1)).1 != x3)) (
  ret (Sum.inr false)) (
  ret (Sum.inl (IntKind.wrap .i64 ((0 : Int) + (1 : Int)))))) (
  ret (Sum.inl (0 : Int)))) (fun
  | .inl (s4 : Int) =>
  bnd (f23_words_CharOf x3) fun (r7 : (Int × Bool)) =>
  bnd (
  cnd r7.2 (
  cnd (cond (!(Gf15_words_Char r7.1).2) true ((Gf15_words_Char r7.1).1 != x3)) (
  ret (Sum.inr false)) (
  ret (Sum.inl (IntKind.wrap .i64 (s4 + (1 : Int)))))) (
  ret (Sum.inl s4))) (fun
  | .inl (s8 : Int) =>
  bnd (f25_words_WordOf x3) fun (r11 : (Int × Bool)) =>
  bnd (
  cnd r11.2 (
  cnd (cond (!(Gf17_words_Object r11.1).2) true ((Gf17_words_Object r11.1).1 != x3)) (
  ret (Sum.inr false)) (
  ret (Sum.inl (IntKind.wrap .i64 (s8 + (1 : Int)))))) (
  ret (Sum.inl s8))) (fun
  | .inl (s12 : Int) =>
  bnd (f19_words_Tag x3) fun (r15 : Int) =>
  ret (cond (cond (cond r1 (decide (s12 ≤ (1 : Int))) false) ((s12 == (1 : Int)) == (cond (r15 != (0 : Int)) (r15 != (4 : Int)) false)) false) ((r15 == (0 : Int)) == (x3 == (0 : Int))) false)
  | .inr r16 => ret r16)
  | .inr r17 => ret r17)
  | .inr r18 => ret r18))))
noncomputable def Af7_palaverlaw01_WordsBack : Ann := (.two .nil (.two .nil (.two .nil (.two .nil (.two (.two .nil (.two (.two .nil .nil) .nil)) (.two .nil (.two .nil (.two (.two .nil (.two (.two .nil .nil) .nil)) (.two .nil (.two .nil (.two (.two .nil (.two (.two .nil .nil) .nil)) (.two .nil (.two .nil (.two (.two .nil (.join [(16, (.int .i64))] [8, 17, 18, 104, 105, 106, 107, 108, 109, 110, 111, 112, 113, 114, 115, 116, 117] true (.two (.two .nil (.two .nil (.two .nil (.two (.two .nil .nil) .nil)))) .nil))) (.two .nil (.two (.two .nil (.join [(16, (.int .i64))] [8, 19, 20, 124, 125, 126, 127, 128, 129, 130, 131, 132, 133, 134, 135, 136, 137] true (.two (.two .nil (.two .nil (.two .nil (.two (.two .nil .nil) .nil)))) .nil))) (.two .nil (.two (.two .nil (.join [(16, (.int .i64))] [8, 21, 22, 144, 145, 146, 147, 148, 149, 150, 151, 152, 153, 154, 155, 156, 157] true (.two (.two .nil (.two .nil (.two .nil (.two (.two .nil .nil) .nil)))) .nil))) (.two .nil (.two .nil .nil))))))))))))))))))))
noncomputable def Cf7_palaverlaw01_WordsBack : Ctx := mkC Try.prog tys zeros eqs [(8, ⟨.unit, .bool, fun _ => f8_palaverlaw01_works⟩), (19, ⟨(.int .u64), (.int .u8), fun x => f19_words_Tag x⟩), (23, ⟨(.int .u64), (.tup (.pair (.int .i64) .bool)), fun x => f23_words_CharOf x⟩), (25, ⟨(.int .u64), (.tup (.pair (.int .i64) .bool)), fun x => f25_words_WordOf x⟩)] [(13, ⟨(.int .i64), (.tup (.pair (.int .u64) .bool)), fun x => Gf13_words_Small x⟩), (15, ⟨(.int .i64), (.tup (.pair (.int .u64) .bool)), fun x => Gf15_words_Char x⟩), (17, ⟨(.int .i64), (.tup (.pair (.int .u64) .bool)), fun x => Gf17_words_Object x⟩), (21, ⟨(.int .u64), (.tup (.pair (.int .i64) .bool)), fun x => Gf21_words_SmallOf x⟩)]
theorem Cf7_palaverlaw01_WordsBack_ok : Cf7_palaverlaw01_WordsBack.Ok := mkC_ok mixed tysOk zerosOk eqsOk ⟨Sf8_palaverlaw01_works, Sf19_words_Tag, Sf23_words_CharOf, Sf25_words_WordOf, trivial⟩ ⟨Pf13_words_Small, Pf15_words_Char, Pf17_words_Object, Pf21_words_SmallOf, trivial⟩
theorem Ef7_palaverlaw01_WordsBack (x : (Int × (Int × (Int × Int)))) : evF Cf7_palaverlaw01_WordsBack Try.f7 183 (.pair (.int .i64) (.pair (.int .i64) (.pair (.int .i64) (.int .u64)))) .bool Af7_palaverlaw01_WordsBack x = f7_palaverlaw01_WordsBack x.1 x.2.1 x.2.2.1 x.2.2.2 := by kernel_rfl
theorem Sf7_palaverlaw01_WordsBack : SoundF Try.prog 7 ⟨(.pair (.int .i64) (.pair (.int .i64) (.pair (.int .i64) (.int .u64)))), .bool, fun x => f7_palaverlaw01_WordsBack x.1 x.2.1 x.2.2.1 x.2.2.2⟩ :=
  soundF_of Cf7_palaverlaw01_WordsBack_ok Try.func7 (by kernel_rfl) (by kernel_rfl) Ef7_palaverlaw01_WordsBack
end Go.Proofs.Ytaanmpphkbbllaa
