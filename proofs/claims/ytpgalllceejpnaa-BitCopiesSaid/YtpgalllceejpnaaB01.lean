/-
  Part of the proof: B01
-/
import Derived.Test.YtpgalllceejpnaaB01a
set_option linter.unusedSimpArgs false
set_option linter.unusedVariables false
namespace Go.Proofs.Ytpgalllceejpnaa
set_option linter.unusedVariables false
open Go.Sh
set_option maxRecDepth 100000
noncomputable def Cf50_palaverref00_ownChoices : Ctx := mkC Try.prog tys zeros eqs [] []
/-- palaverpalaverref00.ownChoices -/
noncomputable def f50_palaverref00_ownChoices (x0 : Sl) : M Bool :=
  loopM (fun (s1 : Int) =>
  cnd (decide (s1 < (x0.len : Int))) (
  loopM (fun (s2 : Int) =>
  bnd (ix 1 x0 s1) fun (p3 : Addr) =>
  bnd (ld .sl p3) fun (v4 : Sl) =>
  cnd (decide (s2 < (v4.len : Int))) (
  bnd (ix 1 x0 s1) fun (p5 : Addr) =>
  bnd (ld .sl p5) fun (v6 : Sl) =>
  bnd (ix 3 v6 s2) fun (p7 : Addr) =>
  bnd (wrs p7 0 [.int .u8 (0 : Int), .int .i64 (IntKind.wrap .i64 ((IntKind.wrap .i64 (s1 * (1000 : Int))) + s2)), .string (ByteArray.mk #[])]) fun _ =>
  ret (Sum.inl (IntKind.wrap .i64 (s2 + (1 : Int))))) (
  ret (Sum.inr (Sum.inl (IntKind.wrap .i64 (s1 + (1 : Int))))))) (0 : Int)) (
  bnd (
  loopM (fun (s8 : (Sl × Int)) =>
  cnd (decide (s8.2 < (x0.len : Int))) (
  bnd (ix 1 x0 s8.2) fun (p9 : Addr) =>
  bnd (ld .sl p9) fun (v10 : Sl) =>
  loopM (fun (s11 : (Sl × Int)) =>
  cnd (decide (s11.2 < (16 : Int))) (
  bnd (runV Try.prog .sl (Instr.buildSlice 102 1 #[(0, .agg #[.int .u8 (0 : Int), .int .i64 (IntKind.wrap .i64 ((IntKind.wrap .i64 ((IntKind.wrap .i64 ((-1 : Int) - s8.2)) * (1000 : Int))) - s11.2)), .string (ByteArray.mk #[])])])) fun (v12 : Sl) =>
  bnd (runV Try.prog .sl (Builtin.append_ #[102, 102] 102 #[.slice s11.1.a s11.1.len s11.1.cap, .slice v12.a v12.len v12.cap])) fun (v13 : Sl) =>
  ret (Sum.inl (v13, (IntKind.wrap .i64 (s11.2 + (1 : Int)))))) (
  bnd (
  bnd (runV Try.prog .sl (Instr.buildSlice 44 1 #[(0, .slice s11.1.a s11.1.len s11.1.cap)])) fun (v14 : Sl) =>
  bnd (runV Try.prog .sl (Builtin.append_ #[44, 44] 44 #[.slice s8.1.a s8.1.len s8.1.cap, .slice v14.a v14.len v14.cap])) fun (v15 : Sl) =>
  ret (Sum.inl (v15, (IntKind.wrap .i64 (s8.2 + (1 : Int)))))) fun r16 =>
  ret (Sum.inr r16))) (v10, (0 : Int))) (
  bnd (
  loopM (fun (s17 : Int) =>
  cnd (decide (s17 < (x0.len : Int))) (
  bnd (ix 1 x0 s17) fun (p18 : Addr) =>
  bnd (ld .sl p18) fun (v19 : Sl) =>
  loopM (fun (s20 : Int) =>
  cnd (decide (s20 < (v19.len : Int))) (
  bnd (ix 1 x0 s17) fun (p21 : Addr) =>
  bnd (ld .sl p21) fun (v22 : Sl) =>
  bnd (ix 3 v22 s20) fun (p23 : Addr) =>
  bnd (ld (.agg (.pair (.int .u8) (.pair (.int .i64) .str))) p23) fun (v24 : (Int × (Int × ByteArray))) =>
  bnd (
  cnd (!((v24.1 == (0 : Int)) && ((v24.2.1 == (IntKind.wrap .i64 ((IntKind.wrap .i64 (s17 * (1000 : Int))) + s20))) && (strEq v24.2.2 (ByteArray.mk #[]))))) (
  ret true) (
  bnd (ix 1 s8.1 s17) fun (p25 : Addr) =>
  bnd (ld .sl p25) fun (v26 : Sl) =>
  bnd (ix 3 v26 s20) fun (p27 : Addr) =>
  bnd (ld (.agg (.pair (.int .u8) (.pair (.int .i64) .str))) p27) fun (v28 : (Int × (Int × ByteArray))) =>
  ret (!((v28.1 == (0 : Int)) && ((v28.2.1 == (IntKind.wrap .i64 ((IntKind.wrap .i64 (s17 * (1000 : Int))) + s20))) && (strEq v28.2.2 (ByteArray.mk #[]))))))) fun (b29 : Bool) =>
  cnd b29 (
  ret (Sum.inr (Sum.inr false))) (
  ret (Sum.inl (IntKind.wrap .i64 (s20 + (1 : Int)))))) (
  bnd (
  loopM (fun (s30 : Int) =>
  cnd (decide (s30 < (16 : Int))) (
  bnd (ix 1 s8.1 s17) fun (p31 : Addr) =>
  bnd (ld .sl p31) fun (v32 : Sl) =>
  bnd (ix 3 v32 (IntKind.wrap .i64 ((v19.len : Int) + s30))) fun (p33 : Addr) =>
  bnd (ld (.agg (.pair (.int .u8) (.pair (.int .i64) .str))) p33) fun (v34 : (Int × (Int × ByteArray))) =>
  cnd (!((v34.1 == (0 : Int)) && ((v34.2.1 == (IntKind.wrap .i64 ((IntKind.wrap .i64 ((IntKind.wrap .i64 ((-1 : Int) - s17)) * (1000 : Int))) - s30))) && (strEq v34.2.2 (ByteArray.mk #[]))))) (
  ret (Sum.inr (Sum.inr false))) (
  ret (Sum.inl (IntKind.wrap .i64 (s30 + (1 : Int)))))) (
  ret (Sum.inr (Sum.inl (IntKind.wrap .i64 (s17 + (1 : Int))))))) (0 : Int)) fun r35 =>
  ret (Sum.inr r35))) (0 : Int)) (
  ret (Sum.inr true))) (0 : Int)) fun r36 =>
  ret (Sum.inr r36))) ((Sl.mk none 0 0), (0 : Int))) fun r37 =>
  ret (Sum.inr r37))) (0 : Int)
noncomputable def Af50_palaverref00_ownChoices : Ann := (.two .nil (.two (.two .nil (.one (.loop [(3, (.int .i64))] [4, 13, 14, 15, 16, 17, 18, 19, 20, 21, 22, 23, 24, 25, 26, 27, 28, 29, 30, 31, 32, 33, 34, 35, 36, 37, 38] (.two (.two .nil (.two .nil .nil)) (.two (.one (.two .nil (.one (.loop [(4, (.int .i64))] [19, 20, 21, 22, 23, 24, 25, 26, 27, 28, 29, 30, 31, 32, 33, 34, 35, 36, 37, 38] (.two (.two .nil (.two .nil .nil)) (.two (.one .nil) .nil)))))) .nil))))) (.two .nil (.two (.two .nil (.one (.loop [(5, .sl), (6, (.int .i64))] [7, 8, 39, 40, 41, 42, 43, 44, 45, 46, 47, 48, 49, 50, 51, 52, 53, 54, 55, 56, 57, 58, 59, 60, 61, 62, 63, 64, 65] (.two (.two .nil (.two .nil .nil)) (.two (.one (.two .nil (.two (.two .nil (.one (.loop [(7, .sl), (8, (.int .i64))] [49, 50, 51, 52, 53, 54, 55, 56, 57, 58, 59, 60, 61] (.two (.two .nil (.two .nil .nil)) (.two (.one .nil) .nil))))) .nil))) .nil))))) (.two (.two .nil (.one (.loop [(9, (.int .i64))] [2, 10, 11, 12, 66, 67, 68, 69, 70, 71, 72, 73, 74, 75, 76, 77, 78, 79, 80, 81, 82, 83, 84, 85, 86, 87, 88, 89, 90, 91, 92, 93, 94, 95, 96, 97, 98, 99, 100, 101, 102, 103, 104, 105, 106, 107, 108, 109, 110, 111, 112, 113, 114, 115, 116, 117, 118, 119, 120, 121, 122, 123, 124, 125, 126, 127, 128, 129] (.two (.two .nil (.two .nil .nil)) (.two (.one (.two .nil (.two (.two .nil (.one (.loop [(11, (.int .i64))] [2, 77, 78, 79, 80, 81, 82, 83, 84, 85, 86, 87, 88, 89, 90, 91, 92, 93, 94, 95, 96, 97, 98, 99, 100, 101, 102, 103, 104, 105, 106, 107, 108, 109] (.two (.two .nil (.two .nil .nil)) (.two (.one (.two .nil (.two (.two .nil .nil) .nil))) .nil))))) (.two .nil (.one (.loop [(12, (.int .i64))] [2, 110, 111, 112, 113, 114, 115, 116, 117, 118, 119, 120, 121, 122, 123, 124, 125, 126, 127, 128, 129] (.two (.two .nil (.two .nil .nil)) (.two (.one (.two .nil (.two (.two .nil .nil) .nil))) .nil)))))))) .nil))))) (.two .nil .nil))))))
theorem Cf50_palaverref00_ownChoices_ok : Cf50_palaverref00_ownChoices.Ok := mkC_ok mixed tysOk zerosOk eqsOk trivial trivial
theorem Ef50_palaverref00_ownChoices (x : Sl) : evF Cf50_palaverref00_ownChoices Try.f50 130 .sl .bool Af50_palaverref00_ownChoices x = f50_palaverref00_ownChoices x := by kernel_rfl
theorem Sf50_palaverref00_ownChoices : SoundF Try.prog 50 ⟨.sl, .bool, fun x => f50_palaverref00_ownChoices x⟩ :=
  soundF_of Cf50_palaverref00_ownChoices_ok Try.func50 (by kernel_rfl) (by kernel_rfl) Ef50_palaverref00_ownChoices
noncomputable def Cf51_palaverref00_ownTexts : Ctx := mkC Try.prog tys zeros eqs [(77, ⟨(.int .i64), .str, fun x => f77_palaverref00_mark x⟩)] []
/-- palaverpalaverref00.ownTexts -/
noncomputable def f51_palaverref00_ownTexts (x0 : Sl) : M Bool :=
  loopM (fun (s1 : Int) =>
  cnd (decide (s1 < (x0.len : Int))) (
  loopM (fun (s2 : Int) =>
  bnd (ix 1 x0 s1) fun (p3 : Addr) =>
  bnd (ld .sl p3) fun (v4 : Sl) =>
  cnd (decide (s2 < (v4.len : Int))) (
  bnd drawM fun _ =>
  bnd (ix 1 x0 s1) fun (p5 : Addr) =>
  bnd (ld .sl p5) fun (v6 : Sl) =>
  bnd (f77_palaverref00_mark (IntKind.wrap .i64 ((IntKind.wrap .i64 (s1 * (1000 : Int))) + s2))) fun (r7 : ByteArray) =>
  bnd (
  bnd (chk .sl p5 v6) fun _ =>
  ret ()) fun _ =>
  bnd (ix 1 v6 s2) fun (p8 : Addr) =>
  bnd (wrs p8 0 [.string r7]) fun _ =>
  bnd (ret ()) fun _ =>
  ret (Sum.inl (IntKind.wrap .i64 (s2 + (1 : Int))))) (
  ret (Sum.inr (Sum.inl (IntKind.wrap .i64 (s1 + (1 : Int))))))) (0 : Int)) (
  bnd (
  loopM (fun (s9 : (Sl × Int)) =>
  cnd (decide (s9.2 < (x0.len : Int))) (
  bnd (ix 1 x0 s9.2) fun (p10 : Addr) =>
  bnd (ld .sl p10) fun (v11 : Sl) =>
  loopM (fun (s12 : (Sl × Int)) =>
  cnd (decide (s12.2 < (16 : Int))) (
  bnd (f77_palaverref00_mark (IntKind.wrap .i64 ((IntKind.wrap .i64 ((IntKind.wrap .i64 ((-1 : Int) - s9.2)) * (1000 : Int))) - s12.2))) fun (r13 : ByteArray) =>
  bnd (runV Try.prog .sl (Instr.buildSlice 106 1 #[(0, .string r13)])) fun (v14 : Sl) =>
  bnd (runV Try.prog .sl (Builtin.append_ #[106, 106] 106 #[.slice s12.1.a s12.1.len s12.1.cap, .slice v14.a v14.len v14.cap])) fun (v15 : Sl) =>
  ret (Sum.inl (v15, (IntKind.wrap .i64 (s12.2 + (1 : Int)))))) (
  bnd (
  bnd (runV Try.prog .sl (Instr.buildSlice 45 1 #[(0, .slice s12.1.a s12.1.len s12.1.cap)])) fun (v16 : Sl) =>
  bnd (runV Try.prog .sl (Builtin.append_ #[45, 45] 45 #[.slice s9.1.a s9.1.len s9.1.cap, .slice v16.a v16.len v16.cap])) fun (v17 : Sl) =>
  ret (Sum.inl (v17, (IntKind.wrap .i64 (s9.2 + (1 : Int)))))) fun r18 =>
  ret (Sum.inr r18))) (v11, (0 : Int))) (
  bnd (
  loopM (fun (s19 : Int) =>
  cnd (decide (s19 < (x0.len : Int))) (
  bnd (ix 1 x0 s19) fun (p20 : Addr) =>
  bnd (ld .sl p20) fun (v21 : Sl) =>
  loopM (fun (s22 : Int) =>
  cnd (decide (s22 < (v21.len : Int))) (
  bnd (
  bnd drawM fun _ =>
  bnd (ix 1 x0 s19) fun (p24 : Addr) =>
  bnd (ld .sl p24) fun (v25 : Sl) =>
  bnd (ix 1 v25 s22) fun (p26 : Addr) =>
  bnd (ld .str p26) fun (v27 : ByteArray) =>
  bnd (f77_palaverref00_mark (IntKind.wrap .i64 ((IntKind.wrap .i64 (s19 * (1000 : Int))) + s22))) fun (r28 : ByteArray) =>
  bnd (
  bnd (chk .str p26 v27) fun _ =>
  bnd (chk .sl p24 v25) fun _ =>
  ret ()) fun _ =>
  cnd (!strEq v27 r28) (
  bnd (ret ()) fun _ =>
  ret true) (
  bnd (ix 1 s9.1 s19) fun (p29 : Addr) =>
  bnd (ld .sl p29) fun (v30 : Sl) =>
  bnd (ix 1 v30 s22) fun (p31 : Addr) =>
  bnd (ld .str p31) fun (v32 : ByteArray) =>
  bnd (f77_palaverref00_mark (IntKind.wrap .i64 ((IntKind.wrap .i64 (s19 * (1000 : Int))) + s22))) fun (r33 : ByteArray) =>
  bnd (
  bnd (chk .str p31 v32) fun _ =>
  bnd (chk .sl p29 v30) fun _ =>
  ret ()) fun _ =>
  ret (!strEq v32 r33))) fun (s23 : Bool) =>
  cnd s23 (
  ret (Sum.inr (Sum.inr false))) (
  ret (Sum.inl (IntKind.wrap .i64 (s22 + (1 : Int)))))) (
  bnd (
  loopM (fun (s34 : Int) =>
  cnd (decide (s34 < (16 : Int))) (
  bnd drawM fun _ =>
  bnd (ix 1 s9.1 s19) fun (p35 : Addr) =>
  bnd (ld .sl p35) fun (v36 : Sl) =>
  bnd (ix 1 v36 (IntKind.wrap .i64 ((v21.len : Int) + s34))) fun (p37 : Addr) =>
  bnd (ld .str p37) fun (v38 : ByteArray) =>
  bnd (f77_palaverref00_mark (IntKind.wrap .i64 ((IntKind.wrap .i64 ((IntKind.wrap .i64 ((-1 : Int) - s19)) * (1000 : Int))) - s34))) fun (r39 : ByteArray) =>
  bnd (
  bnd (chk .str p37 v38) fun _ =>
  bnd (chk .sl p35 v36) fun _ =>
  ret ()) fun _ =>
  cnd (!strEq v38 r39) (
  ret (Sum.inr (Sum.inr false))) (
  ret (Sum.inl (IntKind.wrap .i64 (s34 + (1 : Int)))))) (
  ret (Sum.inr (Sum.inl (IntKind.wrap .i64 (s19 + (1 : Int))))))) (0 : Int)) fun r40 =>
  ret (Sum.inr r40))) (0 : Int)) (
  ret (Sum.inr true))) (0 : Int)) fun r41 =>
  ret (Sum.inr r41))) ((Sl.mk none 0 0), (0 : Int))) fun r42 =>
  ret (Sum.inr r42))) (0 : Int)
noncomputable def Af51_palaverref00_ownTexts : Ann := (.two .nil (.two (.two .nil (.one (.loop [(3, (.int .i64))] [4, 13, 14, 15, 16, 17, 18, 19, 20, 21, 22, 23, 24, 25, 26, 27, 28, 29, 30, 31, 32, 33, 34, 35, 36, 37, 38] (.two (.two .nil (.two .nil .nil)) (.two (.one (.two .nil (.one (.loop [(4, (.int .i64))] [19, 20, 21, 22, 23, 24, 25, 26, 27, 28, 29, 30, 31, 32, 33, 34, 35, 36, 37, 38] (.two (.two .nil (.two .nil .nil)) (.two (.one (.draw [.o 0, .o 1, .o 2, .o 3, .o 4, .o 5, .o 6, .o 7, .o 8, .o 9, .o 10, .o 11])) .nil)))))) .nil))))) (.two .nil (.two (.two .nil (.one (.loop [(5, .sl), (6, (.int .i64))] [7, 8, 39, 40, 41, 42, 43, 44, 45, 46, 47, 48, 49, 50, 51, 52, 53, 54, 55, 56, 57, 58, 59, 60, 61, 62, 63, 64, 65] (.two (.two .nil (.two .nil .nil)) (.two (.one (.two .nil (.two (.two .nil (.one (.loop [(7, .sl), (8, (.int .i64))] [49, 50, 51, 52, 53, 54, 55, 56, 57, 58, 59, 60, 61] (.two (.two .nil (.two .nil .nil)) (.two (.one .nil) .nil))))) .nil))) .nil))))) (.two (.two .nil (.one (.loop [(9, (.int .i64))] [2, 10, 11, 12, 66, 67, 68, 69, 70, 71, 72, 73, 74, 75, 76, 77, 78, 79, 80, 81, 82, 83, 84, 85, 86, 87, 88, 89, 90, 91, 92, 93, 94, 95, 96, 97, 98, 99, 100, 101, 102, 103, 104, 105, 106, 107, 108, 109, 110, 111, 112, 113, 114, 115, 116, 117, 118, 119, 120, 121, 122, 123, 124, 125, 126, 127, 128, 129] (.two (.two .nil (.two .nil .nil)) (.two (.one (.two .nil (.two (.two .nil (.one (.loop [(11, (.int .i64))] [2, 77, 78, 79, 80, 81, 82, 83, 84, 85, 86, 87, 88, 89, 90, 91, 92, 93, 94, 95, 96, 97, 98, 99, 100, 101, 102, 103, 104, 105, 106, 107, 108, 109] (.two (.two .nil (.two .nil .nil)) (.two (.one (.two (.join [(109, .bool)] [82, 83, 84, 85, 86, 87, 88, 89, 90, 91, 92, 93, 94, 95, 96, 97, 98, 99, 100, 101, 102, 103, 104, 105, 106, 107, 108] false (.draw [.o 0, .o 1, .o 2, .o 3, .o 4, .o 5, .o 6, .o 7, .o 8, .o 9, .o 10, .o 11, .o 12, .o 13, .s 95, .o 14, .o 15, .o 16, .o 17, .o 18, .o 19, .o 20, .o 21, .o 22, .o 23, .o 24, .o 25, .o 26, .o 27])) (.two (.two .nil .nil) .nil))) .nil))))) (.two .nil (.one (.loop [(12, (.int .i64))] [2, 110, 111, 112, 113, 114, 115, 116, 117, 118, 119, 120, 121, 122, 123, 124, 125, 126, 127, 128, 129] (.two (.two .nil (.two .nil .nil)) (.two (.one (.two (.draw [.o 0, .o 1, .o 2, .o 3, .o 4, .o 5, .o 6, .o 7, .o 8, .o 9, .o 10, .o 11, .o 12, .o 13, .o 14, .o 15]) (.two (.two .nil .nil) .nil))) .nil)))))))) .nil))))) (.two .nil .nil))))))
theorem Cf51_palaverref00_ownTexts_ok : Cf51_palaverref00_ownTexts.Ok := mkC_ok mixed tysOk zerosOk eqsOk ⟨Sf77_palaverref00_mark, trivial⟩ trivial
theorem Ef51_palaverref00_ownTexts (x : Sl) : evF Cf51_palaverref00_ownTexts Try.f51 130 .sl .bool Af51_palaverref00_ownTexts x = f51_palaverref00_ownTexts x := by kernel_rfl
theorem Sf51_palaverref00_ownTexts : SoundF Try.prog 51 ⟨.sl, .bool, fun x => f51_palaverref00_ownTexts x⟩ :=
  soundF_of Cf51_palaverref00_ownTexts_ok Try.func51 (by kernel_rfl) (by kernel_rfl) Ef51_palaverref00_ownTexts
noncomputable def Cf52_palaverref00_ownBits : Ctx := mkC Try.prog tys zeros eqs [] []
/-- palaverpalaverref00.ownBits -/
noncomputable def f52_palaverref00_ownBits (x0 : Sl) : M Bool :=
  loopM (fun (s1 : Int) =>
  cnd (decide (s1 < (x0.len : Int))) (
  loopM (fun (s2 : Int) =>
  bnd (ix 1 x0 s1) fun (p3 : Addr) =>
  bnd (ld .sl p3) fun (v4 : Sl) =>
  cnd (decide (s2 < (v4.len : Int))) (
  bnd (ix 1 x0 s1) fun (p5 : Addr) =>
  bnd (ld .sl p5) fun (v6 : Sl) =>
  bnd (ix 1 v6 s2) fun (p7 : Addr) =>
  bnd (wrs p7 0 [.int .u32 (IntKind.wrap .u32 (IntKind.wrap .i64 ((IntKind.wrap .i64 ((IntKind.wrap .i64 (s1 * (1000 : Int))) + s2)) + (9000000 : Int))))]) fun _ =>
  ret (Sum.inl (IntKind.wrap .i64 (s2 + (1 : Int))))) (
  ret (Sum.inr (Sum.inl (IntKind.wrap .i64 (s1 + (1 : Int))))))) (0 : Int)) (
  bnd (
  loopM (fun (s8 : (Sl × Int)) =>
  cnd (decide (s8.2 < (x0.len : Int))) (
  bnd (ix 1 x0 s8.2) fun (p9 : Addr) =>
  bnd (ld .sl p9) fun (v10 : Sl) =>
  loopM (fun (s11 : (Sl × Int)) =>
  cnd (decide (s11.2 < (16 : Int))) (
  bnd (runV Try.prog .sl (Instr.buildSlice 22 1 #[(0, .int .u32 (IntKind.wrap .u32 (IntKind.wrap .i64 ((IntKind.wrap .i64 ((IntKind.wrap .i64 ((IntKind.wrap .i64 ((-1 : Int) - s8.2)) * (1000 : Int))) - s11.2)) + (9000000 : Int)))))])) fun (v12 : Sl) =>
  bnd (runV Try.prog .sl (Builtin.append_ #[22, 22] 22 #[.slice s11.1.a s11.1.len s11.1.cap, .slice v12.a v12.len v12.cap])) fun (v13 : Sl) =>
  ret (Sum.inl (v13, (IntKind.wrap .i64 (s11.2 + (1 : Int)))))) (
  bnd (
  bnd (runV Try.prog .sl (Instr.buildSlice 46 1 #[(0, .slice s11.1.a s11.1.len s11.1.cap)])) fun (v14 : Sl) =>
  bnd (runV Try.prog .sl (Builtin.append_ #[46, 46] 46 #[.slice s8.1.a s8.1.len s8.1.cap, .slice v14.a v14.len v14.cap])) fun (v15 : Sl) =>
  ret (Sum.inl (v15, (IntKind.wrap .i64 (s8.2 + (1 : Int)))))) fun r16 =>
  ret (Sum.inr r16))) (v10, (0 : Int))) (
  bnd (
  loopM (fun (s17 : Int) =>
  cnd (decide (s17 < (x0.len : Int))) (
  bnd (ix 1 x0 s17) fun (p18 : Addr) =>
  bnd (ld .sl p18) fun (v19 : Sl) =>
  loopM (fun (s20 : Int) =>
  cnd (decide (s20 < (v19.len : Int))) (
  bnd (ix 1 x0 s17) fun (p21 : Addr) =>
  bnd (ld .sl p21) fun (v22 : Sl) =>
  bnd (ix 1 v22 s20) fun (p23 : Addr) =>
  bnd (ld (.int .u32) p23) fun (v24 : Int) =>
  bnd (
  cnd (v24 != (IntKind.wrap .u32 (IntKind.wrap .i64 ((IntKind.wrap .i64 ((IntKind.wrap .i64 (s17 * (1000 : Int))) + s20)) + (9000000 : Int))))) (
  ret true) (
  bnd (ix 1 s8.1 s17) fun (p25 : Addr) =>
  bnd (ld .sl p25) fun (v26 : Sl) =>
  bnd (ix 1 v26 s20) fun (p27 : Addr) =>
  bnd (ld (.int .u32) p27) fun (v28 : Int) =>
  ret (v28 != (IntKind.wrap .u32 (IntKind.wrap .i64 ((IntKind.wrap .i64 ((IntKind.wrap .i64 (s17 * (1000 : Int))) + s20)) + (9000000 : Int))))))) fun (b29 : Bool) =>
  cnd b29 (
  ret (Sum.inr (Sum.inr false))) (
  ret (Sum.inl (IntKind.wrap .i64 (s20 + (1 : Int)))))) (
  bnd (
  loopM (fun (s30 : Int) =>
  cnd (decide (s30 < (16 : Int))) (
  bnd (ix 1 s8.1 s17) fun (p31 : Addr) =>
  bnd (ld .sl p31) fun (v32 : Sl) =>
  bnd (ix 1 v32 (IntKind.wrap .i64 ((v19.len : Int) + s30))) fun (p33 : Addr) =>
  bnd (ld (.int .u32) p33) fun (v34 : Int) =>
  cnd (v34 != (IntKind.wrap .u32 (IntKind.wrap .i64 ((IntKind.wrap .i64 ((IntKind.wrap .i64 ((IntKind.wrap .i64 ((-1 : Int) - s17)) * (1000 : Int))) - s30)) + (9000000 : Int))))) (
  ret (Sum.inr (Sum.inr false))) (
  ret (Sum.inl (IntKind.wrap .i64 (s30 + (1 : Int)))))) (
  ret (Sum.inr (Sum.inl (IntKind.wrap .i64 (s17 + (1 : Int))))))) (0 : Int)) fun r35 =>
  ret (Sum.inr r35))) (0 : Int)) (
  ret (Sum.inr true))) (0 : Int)) fun r36 =>
  ret (Sum.inr r36))) ((Sl.mk none 0 0), (0 : Int))) fun r37 =>
  ret (Sum.inr r37))) (0 : Int)
noncomputable def Af52_palaverref00_ownBits : Ann := (.two .nil (.two (.two .nil (.one (.loop [(3, (.int .i64))] [4, 13, 14, 15, 16, 17, 18, 19, 20, 21, 22, 23, 24, 25, 26, 27, 28, 29, 30, 31, 32, 33, 34, 35, 36, 37, 38, 39] (.two (.two .nil (.two .nil .nil)) (.two (.one (.two .nil (.one (.loop [(4, (.int .i64))] [19, 20, 21, 22, 23, 24, 25, 26, 27, 28, 29, 30, 31, 32, 33, 34, 35, 36, 37, 38, 39] (.two (.two .nil (.two .nil .nil)) (.two (.one .nil) .nil)))))) .nil))))) (.two .nil (.two (.two .nil (.one (.loop [(5, .sl), (6, (.int .i64))] [7, 8, 40, 41, 42, 43, 44, 45, 46, 47, 48, 49, 50, 51, 52, 53, 54, 55, 56, 57, 58, 59, 60, 61, 62, 63, 64, 65, 66, 67] (.two (.two .nil (.two .nil .nil)) (.two (.one (.two .nil (.two (.two .nil (.one (.loop [(7, .sl), (8, (.int .i64))] [50, 51, 52, 53, 54, 55, 56, 57, 58, 59, 60, 61, 62, 63] (.two (.two .nil (.two .nil .nil)) (.two (.one .nil) .nil))))) .nil))) .nil))))) (.two (.two .nil (.one (.loop [(9, (.int .i64))] [2, 10, 11, 12, 68, 69, 70, 71, 72, 73, 74, 75, 76, 77, 78, 79, 80, 81, 82, 83, 84, 85, 86, 87, 88, 89, 90, 91, 92, 93, 94, 95, 96, 97, 98, 99, 100, 101, 102, 103, 104, 105, 106, 107, 108, 109, 110, 111, 112, 113, 114, 115, 116, 117, 118, 119, 120, 121, 122, 123, 124, 125, 126, 127, 128, 129, 130, 131, 132, 133, 134] (.two (.two .nil (.two .nil .nil)) (.two (.one (.two .nil (.two (.two .nil (.one (.loop [(11, (.int .i64))] [2, 79, 80, 81, 82, 83, 84, 85, 86, 87, 88, 89, 90, 91, 92, 93, 94, 95, 96, 97, 98, 99, 100, 101, 102, 103, 104, 105, 106, 107, 108, 109, 110, 111, 112, 113] (.two (.two .nil (.two .nil .nil)) (.two (.one (.two .nil (.two (.two .nil .nil) .nil))) .nil))))) (.two .nil (.one (.loop [(12, (.int .i64))] [2, 114, 115, 116, 117, 118, 119, 120, 121, 122, 123, 124, 125, 126, 127, 128, 129, 130, 131, 132, 133, 134] (.two (.two .nil (.two .nil .nil)) (.two (.one (.two .nil (.two (.two .nil .nil) .nil))) .nil)))))))) .nil))))) (.two .nil .nil))))))
theorem Cf52_palaverref00_ownBits_ok : Cf52_palaverref00_ownBits.Ok := mkC_ok mixed tysOk zerosOk eqsOk trivial trivial
theorem Ef52_palaverref00_ownBits (x : Sl) : evF Cf52_palaverref00_ownBits Try.f52 135 .sl .bool Af52_palaverref00_ownBits x = f52_palaverref00_ownBits x := by kernel_rfl
theorem Sf52_palaverref00_ownBits : SoundF Try.prog 52 ⟨.sl, .bool, fun x => f52_palaverref00_ownBits x⟩ :=
  soundF_of Cf52_palaverref00_ownBits_ok Try.func52 (by kernel_rfl) (by kernel_rfl) Ef52_palaverref00_ownBits
noncomputable def Cf24_palaverref00_Book_Own : Ctx := mkC Try.prog tys zeros eqs [(45, ⟨.sl, .bool, fun x => f45_palaverref00_ownInts x⟩), (46, ⟨.sl, .bool, fun x => f46_palaverref00_ownNumbers x⟩), (47, ⟨.sl, .bool, fun x => f47_palaverref00_ownOops x⟩), (48, ⟨.sl, .bool, fun x => f48_palaverref00_ownDeeds x⟩), (49, ⟨.sl, .bool, fun x => f49_palaverref00_ownFiles x⟩), (50, ⟨.sl, .bool, fun x => f50_palaverref00_ownChoices x⟩), (51, ⟨.sl, .bool, fun x => f51_palaverref00_ownTexts x⟩), (52, ⟨.sl, .bool, fun x => f52_palaverref00_ownBits x⟩)] []
/-- (*palaverpalaverref00.Book).Own -/
noncomputable def f24_palaverref00_Book_Own (x0 : Option Addr) : M Bool :=
  bnd (drf x0) fun (p1 : Addr) =>
  bnd (ld .sl (Addr.add p1 0)) fun (v2 : Sl) =>
  bnd (f45_palaverref00_ownInts v2) fun (r3 : Bool) =>
  bnd (drf x0) fun (p4 : Addr) =>
  bnd (ld .sl (Addr.add p4 1)) fun (v5 : Sl) =>
  bnd (f46_palaverref00_ownNumbers v5) fun (r6 : Bool) =>
  bnd (drf x0) fun (p7 : Addr) =>
  bnd (ld .sl (Addr.add p7 2)) fun (v8 : Sl) =>
  bnd (f47_palaverref00_ownOops v8) fun (r9 : Bool) =>
  bnd (drf x0) fun (p10 : Addr) =>
  bnd (ld .sl (Addr.add p10 3)) fun (v11 : Sl) =>
  bnd (f48_palaverref00_ownDeeds v11) fun (r12 : Bool) =>
  bnd (drf x0) fun (p13 : Addr) =>
  bnd (ld .sl (Addr.add p13 4)) fun (v14 : Sl) =>
  bnd (f49_palaverref00_ownFiles v14) fun (r15 : Bool) =>
  bnd (drf x0) fun (p16 : Addr) =>
  bnd (ld .sl (Addr.add p16 5)) fun (v17 : Sl) =>
  bnd (f50_palaverref00_ownChoices v17) fun (r18 : Bool) =>
  bnd (drf x0) fun (p19 : Addr) =>
  bnd (ld .sl (Addr.add p19 6)) fun (v20 : Sl) =>
  bnd (f51_palaverref00_ownTexts v20) fun (r21 : Bool) =>
  bnd (drf x0) fun (p22 : Addr) =>
  bnd (ld .sl (Addr.add p22 7)) fun (v23 : Sl) =>
  bnd (f52_palaverref00_ownBits v23) fun (r24 : Bool) =>
  ret (cond (cond (cond (cond (cond (cond (cond r3 r6 false) r9 false) r12 false) r15 false) r18 false) r21 false) r24 false)
noncomputable def Af24_palaverref00_Book_Own : Ann := (.two .nil (.two .nil (.two .nil (.two .nil (.two .nil (.two .nil (.two .nil (.two .nil (.two .nil (.two .nil .nil))))))))))
theorem Cf24_palaverref00_Book_Own_ok : Cf24_palaverref00_Book_Own.Ok := mkC_ok mixed tysOk zerosOk eqsOk ⟨Sf45_palaverref00_ownInts, Sf46_palaverref00_ownNumbers, Sf47_palaverref00_ownOops, Sf48_palaverref00_ownDeeds, Sf49_palaverref00_ownFiles, Sf50_palaverref00_ownChoices, Sf51_palaverref00_ownTexts, Sf52_palaverref00_ownBits, trivial⟩ trivial
theorem Ef24_palaverref00_Book_Own (x : Option Addr) : evF Cf24_palaverref00_Book_Own Try.f24 73 .ptr .bool Af24_palaverref00_Book_Own x = f24_palaverref00_Book_Own x := by kernel_rfl
theorem Sf24_palaverref00_Book_Own : SoundF Try.prog 24 ⟨.ptr, .bool, fun x => f24_palaverref00_Book_Own x⟩ :=
  soundF_of Cf24_palaverref00_Book_Own_ok Try.func24 (by kernel_rfl) (by kernel_rfl) Ef24_palaverref00_Book_Own
noncomputable def Cf3_palaverlaw11_BitForms : Ctx := mkC Try.prog tys zeros eqs [(8, ⟨.unit, .bool, fun _ => f8_palaverlaw11_works⟩), (9, ⟨(.pair (.agg (.pair (.int .i64) (.pair (.int .i64) (.pair (.int .i64) .sl)))) (.agg (.pair (.int .i64) (.pair (.int .i64) (.pair (.int .i64) .sl))))), .bool, fun x => f9_palaverlaw11_far x.1 x.2⟩), (10, ⟨(.pair (.int .i64) (.pair (.int .i64) (.int .i64))), (.tup (.pair (.agg (.pair (.int .i64) (.pair (.int .i64) (.pair (.int .i64) .sl)))) (.int .i64))), fun x => f10_bitblt_New x.1 x.2.1 x.2.2⟩), (11, ⟨(.pair (.int .i64) (.pair (.int .i64) (.int .i64))), (.tup (.pair (.agg (.pair (.int .i64) (.pair (.int .i64) (.pair (.int .i64) .sl)))) (.int .i64))), fun x => f11_palaverref11_New x.1 x.2.1 x.2.2⟩), (12, ⟨(.pair (.agg (.pair (.int .i64) (.pair (.int .i64) (.pair (.int .i64) .sl)))) (.agg (.pair (.int .i64) (.pair (.int .i64) (.pair (.int .i64) .sl))))), .bool, fun x => f12_palaverlaw11_same x.1 x.2⟩), (13, ⟨.sl, .sl, fun x => f13_palaverref00_LentBits x⟩), (14, ⟨(.agg (.pair (.int .i64) (.pair (.int .i64) (.pair (.int .i64) .sl)))), (.int .i64), fun x => f14_bitblt_Check x⟩), (15, ⟨(.agg (.pair (.int .i64) (.pair (.int .i64) (.pair (.int .i64) .sl)))), (.int .i64), fun x => f15_palaverref11_Check x⟩), (16, ⟨(.pair (.agg (.pair (.int .i64) (.pair (.int .i64) (.pair (.int .i64) .sl)))) (.pair (.int .i64) (.int .i64))), (.tup (.pair (.int .u32) (.int .i64))), fun x => f16_bitblt_Pixel x.1 x.2.1 x.2.2⟩), (17, ⟨(.pair (.agg (.pair (.int .i64) (.pair (.int .i64) (.pair (.int .i64) .sl)))) (.pair (.int .i64) (.int .i64))), (.tup (.pair (.int .u32) (.int .i64))), fun x => f17_palaverref11_Pixel x.1 x.2.1 x.2.2⟩), (18, ⟨(.pair (.agg (.pair (.int .i64) (.pair (.int .i64) (.pair (.int .i64) .sl)))) (.pair (.int .i64) (.pair (.int .i64) (.int .u32)))), (.tup (.pair (.agg (.pair (.int .i64) (.pair (.int .i64) (.pair (.int .i64) .sl)))) (.int .i64))), fun x => f18_bitblt_Put x.1 x.2.1 x.2.2.1 x.2.2.2⟩), (19, ⟨(.pair (.agg (.pair (.int .i64) (.pair (.int .i64) (.pair (.int .i64) .sl)))) (.pair (.int .i64) (.pair (.int .i64) (.int .u32)))), (.tup (.pair (.agg (.pair (.int .i64) (.pair (.int .i64) (.pair (.int .i64) .sl)))) (.int .i64))), fun x => f19_palaverref11_Put x.1 x.2.1 x.2.2.1 x.2.2.2⟩), (20, ⟨(.pair (.int .i64) (.pair (.int .u32) (.int .u32))), (.tup (.pair (.int .u32) (.int .i64))), fun x => f20_bitblt_Rule x.1 x.2.1 x.2.2⟩), (21, ⟨(.pair (.int .i64) (.pair (.int .u32) (.int .u32))), (.tup (.pair (.int .u32) (.int .i64))), fun x => f21_palaverref11_Rule x.1 x.2.1 x.2.2⟩), (22, ⟨(.pair .sl .sl), .bool, fun x => f22_palaverref00_WholeBits x.1 x.2⟩), (23, ⟨(.pair .ptr .sl), (.tup .unit), fun x => f23_palaverref00_Book_Bits x.1 x.2⟩), (24, ⟨.ptr, .bool, fun x => f24_palaverref00_Book_Own x⟩)] []
/-- palaverpalaverlaw11.BitForms -/
noncomputable def f3_palaverlaw11_BitForms (x0 : (Int × (Int × (Int × Sl)))) (x1 : Int) (x2 : Int) (x3 : Int) (x4 : Int) (x5 : Int) (x6 : Int) : M Bool :=
  bnd (newC 24 [.int .i64 x0.1, .int .i64 x0.2.1, .int .i64 x0.2.2.1, .slice x0.2.2.2.a x0.2.2.2.len x0.2.2.2.cap]) fun (p1 : Addr) =>
  bnd f8_palaverlaw11_works fun (r2 : Bool) =>
  bnd (ld (.agg (.pair (.int .i64) (.pair (.int .i64) (.pair (.int .i64) .sl)))) p1) fun (v3 : (Int × (Int × (Int × Sl)))) =>
  bnd (ld (.agg (.pair (.int .i64) (.pair (.int .i64) (.pair (.int .i64) .sl)))) p1) fun (v4 : (Int × (Int × (Int × Sl)))) =>
  bnd (f9_palaverlaw11_far v3 v4) fun (r5 : Bool) =>
  cnd r5 (
  ret r2) (
  bnd (ld (.int .i64) (Addr.add p1 0)) fun (v6 : Int) =>
  bnd (ld (.int .i64) (Addr.add p1 1)) fun (v7 : Int) =>
  bnd (ld (.int .i64) (Addr.add p1 2)) fun (v8 : Int) =>
  bnd (f10_bitblt_New v6 v7 v8) fun (r9 : ((Int × (Int × (Int × Sl))) × Int)) =>
  bnd (newC 24 [.int .i64 (0 : Int), .int .i64 (0 : Int), .int .i64 (0 : Int), .slice none 0 0]) fun (p10 : Addr) =>
  bnd (wrs p10 0 [.int .i64 r9.1.1, .int .i64 r9.1.2.1, .int .i64 r9.1.2.2.1, .slice r9.1.2.2.2.a r9.1.2.2.2.len r9.1.2.2.2.cap]) fun _ =>
  bnd (ld (.int .i64) (Addr.add p1 0)) fun (v11 : Int) =>
  bnd (ld (.int .i64) (Addr.add p1 1)) fun (v12 : Int) =>
  bnd (ld (.int .i64) (Addr.add p1 2)) fun (v13 : Int) =>
  bnd (f11_palaverref11_New v11 v12 v13) fun (r14 : ((Int × (Int × (Int × Sl))) × Int)) =>
  bnd (newC 24 [.int .i64 (0 : Int), .int .i64 (0 : Int), .int .i64 (0 : Int), .slice none 0 0]) fun (p15 : Addr) =>
  bnd (wrs p15 0 [.int .i64 r14.1.1, .int .i64 r14.1.2.1, .int .i64 r14.1.2.2.1, .slice r14.1.2.2.2.a r14.1.2.2.2.len r14.1.2.2.2.cap]) fun _ =>
  bnd (ld (.agg (.pair (.int .i64) (.pair (.int .i64) (.pair (.int .i64) .sl)))) p10) fun (v16 : (Int × (Int × (Int × Sl)))) =>
  bnd (ld (.agg (.pair (.int .i64) (.pair (.int .i64) (.pair (.int .i64) .sl)))) p15) fun (v17 : (Int × (Int × (Int × Sl)))) =>
  bnd (f12_palaverlaw11_same v16 v17) fun (r18 : Bool) =>
  bnd (ld (.agg (.pair (.int .i64) (.pair (.int .i64) (.pair (.int .i64) .sl)))) p1) fun (v19 : (Int × (Int × (Int × Sl)))) =>
  bnd (newC 24 [.int .i64 (0 : Int), .int .i64 (0 : Int), .int .i64 (0 : Int), .slice none 0 0]) fun (p20 : Addr) =>
  bnd (wrs p20 0 [.int .i64 v19.1, .int .i64 v19.2.1, .int .i64 v19.2.2.1, .slice v19.2.2.2.a v19.2.2.2.len v19.2.2.2.cap]) fun _ =>
  bnd (ld .sl (Addr.add p1 3)) fun (v21 : Sl) =>
  bnd (f13_palaverref00_LentBits v21) fun (r22 : Sl) =>
  bnd (wrs (Addr.add p20 3) 0 [.slice r22.a r22.len r22.cap]) fun _ =>
  bnd (ld (.agg (.pair (.int .i64) (.pair (.int .i64) (.pair (.int .i64) .sl)))) p20) fun (v23 : (Int × (Int × (Int × Sl)))) =>
  bnd (f14_bitblt_Check v23) fun (r24 : Int) =>
  bnd (ld (.agg (.pair (.int .i64) (.pair (.int .i64) (.pair (.int .i64) .sl)))) p1) fun (v25 : (Int × (Int × (Int × Sl)))) =>
  bnd (f15_palaverref11_Check v25) fun (r26 : Int) =>
  bnd (ld (.agg (.pair (.int .i64) (.pair (.int .i64) (.pair (.int .i64) .sl)))) p20) fun (v27 : (Int × (Int × (Int × Sl)))) =>
  bnd (f16_bitblt_Pixel v27 x1 x2) fun (r28 : (Int × Int)) =>
  bnd (ld (.agg (.pair (.int .i64) (.pair (.int .i64) (.pair (.int .i64) .sl)))) p1) fun (v29 : (Int × (Int × (Int × Sl)))) =>
  bnd (f17_palaverref11_Pixel v29 x1 x2) fun (r30 : (Int × Int)) =>
  bnd (ld (.agg (.pair (.int .i64) (.pair (.int .i64) (.pair (.int .i64) .sl)))) p20) fun (v31 : (Int × (Int × (Int × Sl)))) =>
  bnd (f18_bitblt_Put v31 x1 x2 x3) fun (r32 : ((Int × (Int × (Int × Sl))) × Int)) =>
  bnd (newC 24 [.int .i64 (0 : Int), .int .i64 (0 : Int), .int .i64 (0 : Int), .slice none 0 0]) fun (p33 : Addr) =>
  bnd (wrs p33 0 [.int .i64 r32.1.1, .int .i64 r32.1.2.1, .int .i64 r32.1.2.2.1, .slice r32.1.2.2.2.a r32.1.2.2.2.len r32.1.2.2.2.cap]) fun _ =>
  bnd (ld (.agg (.pair (.int .i64) (.pair (.int .i64) (.pair (.int .i64) .sl)))) p1) fun (v34 : (Int × (Int × (Int × Sl)))) =>
  bnd (f19_palaverref11_Put v34 x1 x2 x3) fun (r35 : ((Int × (Int × (Int × Sl))) × Int)) =>
  bnd (newC 24 [.int .i64 (0 : Int), .int .i64 (0 : Int), .int .i64 (0 : Int), .slice none 0 0]) fun (p36 : Addr) =>
  bnd (wrs p36 0 [.int .i64 r35.1.1, .int .i64 r35.1.2.1, .int .i64 r35.1.2.2.1, .slice r35.1.2.2.2.a r35.1.2.2.2.len r35.1.2.2.2.cap]) fun _ =>
  bnd (ld (.agg (.pair (.int .i64) (.pair (.int .i64) (.pair (.int .i64) .sl)))) p33) fun (v37 : (Int × (Int × (Int × Sl)))) =>
  bnd (ld (.agg (.pair (.int .i64) (.pair (.int .i64) (.pair (.int .i64) .sl)))) p36) fun (v38 : (Int × (Int × (Int × Sl)))) =>
  bnd (f12_palaverlaw11_same v37 v38) fun (r39 : Bool) =>
  bnd (f20_bitblt_Rule x4 x5 x6) fun (r40 : (Int × Int)) =>
  bnd (f21_palaverref11_Rule x4 x5 x6) fun (r41 : (Int × Int)) =>
  bnd (ld .sl (Addr.add p20 3)) fun (v42 : Sl) =>
  bnd (ld .sl (Addr.add p1 3)) fun (v43 : Sl) =>
  bnd (f22_palaverref00_WholeBits v42 v43) fun (r44 : Bool) =>
  bnd (newC 48 [.slice none 0 0, .slice none 0 0, .slice none 0 0, .slice none 0 0, .slice none 0 0, .slice none 0 0, .slice none 0 0, .slice none 0 0]) fun (p45 : Addr) =>
  bnd (ld .sl (Addr.add p10 3)) fun (v46 : Sl) =>
  bnd (f23_palaverref00_Book_Bits (some p45) v46) fun (r47 : Unit) =>
  bnd (ld .sl (Addr.add p33 3)) fun (v48 : Sl) =>
  bnd (f23_palaverref00_Book_Bits (some p45) v48) fun (r49 : Unit) =>
  bnd (ld .sl (Addr.add p20 3)) fun (v50 : Sl) =>
  bnd (f23_palaverref00_Book_Bits (some p45) v50) fun (r51 : Unit) =>
  bnd (f24_palaverref00_Book_Own (some p45)) fun (r52 : Bool) =>
  ret (cond (cond (cond (cond (cond (cond (cond (cond (cond (cond (cond r2 r18 false) (r9.2 == r14.2) false) (r24 == r26) false) (r28.1 == r30.1) false) (r28.2 == r30.2) false) r39 false) (r32.2 == r35.2) false) (r40.1 == r41.1) false) (r40.2 == r41.2) false) r44 false) r52 false))
noncomputable def Af3_palaverlaw11_BitForms : Ann := (.two .nil (.two .nil (.two .nil (.two (.two .nil (.two (.two .nil .nil) .nil)) (.two .nil (.two .nil (.two .nil (.two .nil (.two .nil (.two .nil (.two .nil (.two .nil (.two .nil (.two .nil (.two .nil (.two .nil (.two .nil (.two .nil (.two .nil (.two .nil (.two .nil (.two .nil (.two .nil (.two .nil (.two .nil .nil)))))))))))))))))))))))))
theorem Cf3_palaverlaw11_BitForms_ok : Cf3_palaverlaw11_BitForms.Ok := mkC_ok mixed tysOk zerosOk eqsOk ⟨Sf8_palaverlaw11_works, Sf9_palaverlaw11_far, Sf10_bitblt_New, Sf11_palaverref11_New, Sf12_palaverlaw11_same, Sf13_palaverref00_LentBits, Sf14_bitblt_Check, Sf15_palaverref11_Check, Sf16_bitblt_Pixel, Sf17_palaverref11_Pixel, Sf18_bitblt_Put, Sf19_palaverref11_Put, Sf20_bitblt_Rule, Sf21_palaverref11_Rule, Sf22_palaverref00_WholeBits, Sf23_palaverref00_Book_Bits, Sf24_palaverref00_Book_Own, trivial⟩ trivial
theorem Ef3_palaverlaw11_BitForms (x : ((Int × (Int × (Int × Sl))) × (Int × (Int × (Int × (Int × (Int × Int))))))) : evF Cf3_palaverlaw11_BitForms Try.f3 195 (.pair (.agg (.pair (.int .i64) (.pair (.int .i64) (.pair (.int .i64) .sl)))) (.pair (.int .i64) (.pair (.int .i64) (.pair (.int .u32) (.pair (.int .i64) (.pair (.int .u32) (.int .u32))))))) .bool Af3_palaverlaw11_BitForms x = f3_palaverlaw11_BitForms x.1 x.2.1 x.2.2.1 x.2.2.2.1 x.2.2.2.2.1 x.2.2.2.2.2.1 x.2.2.2.2.2.2 := by kernel_rfl
theorem Sf3_palaverlaw11_BitForms : SoundF Try.prog 3 ⟨(.pair (.agg (.pair (.int .i64) (.pair (.int .i64) (.pair (.int .i64) .sl)))) (.pair (.int .i64) (.pair (.int .i64) (.pair (.int .u32) (.pair (.int .i64) (.pair (.int .u32) (.int .u32))))))), .bool, fun x => f3_palaverlaw11_BitForms x.1 x.2.1 x.2.2.1 x.2.2.2.1 x.2.2.2.2.1 x.2.2.2.2.2.1 x.2.2.2.2.2.2⟩ :=
  soundF_of Cf3_palaverlaw11_BitForms_ok Try.func3 (by kernel_rfl) (by kernel_rfl) Ef3_palaverlaw11_BitForms
noncomputable def Cf59_palaverref11_bounds : Ctx := mkC Try.prog tys zeros eqs [] []
/-- palaverpalaverref11.bounds -/
noncomputable def f59_palaverref11_bounds (x0 : (Int × (Int × (Int × (Int × (Int × (Int × (Int × (Int × (Int × (Int × (Int × Sl)))))))))))) (x1 : Bool) : M Bool :=
  bnd (newC 52 [.int .i64 x0.1, .int .i64 x0.2.1, .int .i64 x0.2.2.1, .int .i64 x0.2.2.2.1, .int .i64 x0.2.2.2.2.1, .int .i64 x0.2.2.2.2.2.1, .int .i64 x0.2.2.2.2.2.2.1, .int .i64 x0.2.2.2.2.2.2.2.1, .int .i64 x0.2.2.2.2.2.2.2.2.1, .int .i64 x0.2.2.2.2.2.2.2.2.2.1, .int .i64 x0.2.2.2.2.2.2.2.2.2.2.1, .slice x0.2.2.2.2.2.2.2.2.2.2.2.a x0.2.2.2.2.2.2.2.2.2.2.2.len x0.2.2.2.2.2.2.2.2.2.2.2.cap]) fun (p1 : Addr) =>
  bnd (ld (.int .i64) (Addr.add p1 1)) fun (v2 : Int) =>
  bnd (ld (.int .i64) (Addr.add p1 2)) fun (v3 : Int) =>
  bnd (ld (.int .i64) (Addr.add p1 3)) fun (v4 : Int) =>
  bnd (ld (.int .i64) (Addr.add p1 4)) fun (v5 : Int) =>
  bnd (ld (.int .i64) (Addr.add p1 7)) fun (v6 : Int) =>
  bnd (ld (.int .i64) (Addr.add p1 8)) fun (v7 : Int) =>
  bnd (ld (.int .i64) (Addr.add p1 9)) fun (v8 : Int) =>
  bnd (ld (.int .i64) (Addr.add p1 10)) fun (v9 : Int) =>
  bnd (runV Try.prog .sl (Instr.buildSlice 90 8 #[(0, .int .i64 v2), (1, .int .i64 v3), (2, .int .i64 v4), (3, .int .i64 v5), (4, .int .i64 v6), (5, .int .i64 v7), (6, .int .i64 v8), (7, .int .i64 v9)])) fun (v10 : Sl) =>
  bnd (
  cnd x1 (
  bnd (ld (.int .i64) (Addr.add p1 5)) fun (v12 : Int) =>
  bnd (ld (.int .i64) (Addr.add p1 6)) fun (v13 : Int) =>
  bnd (runV Try.prog .sl (Instr.buildSlice 90 2 #[(0, .int .i64 v12), (1, .int .i64 v13)])) fun (v14 : Sl) =>
  bnd (runV Try.prog .sl (Builtin.append_ #[90, 90] 90 #[.slice v10.a v10.len v10.cap, .slice v14.a v14.len v14.cap])) fun (v15 : Sl) =>
  ret v15) (
  ret v10)) fun (s11 : Sl) =>
  loopM (fun (s16 : Int) =>
  cnd (decide (s16 < (s11.len : Int))) (
  bnd (ix 1 s11 s16) fun (p17 : Addr) =>
  bnd (ld (.int .i64) p17) fun (v18 : Int) =>
  bnd (
  cnd (decide (v18 < (-1000000 : Int))) (
  ret true) (
  bnd (ix 1 s11 s16) fun (p19 : Addr) =>
  bnd (ld (.int .i64) p19) fun (v20 : Int) =>
  ret (decide (v20 > (1000000 : Int))))) fun (b21 : Bool) =>
  cnd b21 (
  ret (Sum.inr false)) (
  ret (Sum.inl (IntKind.wrap .i64 (s16 + (1 : Int)))))) (
  bnd (
  bnd (ld .sl (Addr.add p1 11)) fun (v22 : Sl) =>
  ret (decide ((v22.len : Int) ≤ (4096 : Int)))) fun r23 =>
  ret (Sum.inr r23))) (0 : Int)
noncomputable def Af59_palaverref11_bounds : Ann := (.two .nil (.two .nil (.two (.two .nil (.join [(5, .sl)] [25, 26, 27, 28, 29, 30, 31] false (.two .nil .nil))) (.two (.two .nil (.one (.loop [(6, (.int .i64))] [4, 32, 33, 34, 35, 36, 37, 38, 39, 40, 41, 42, 43, 44, 45, 46, 47, 48, 49] (.two (.two .nil (.two .nil .nil)) (.two (.one (.two .nil (.two (.two .nil .nil) .nil))) .nil))))) (.two .nil .nil)))))
theorem Cf59_palaverref11_bounds_ok : Cf59_palaverref11_bounds.Ok := mkC_ok mixed tysOk zerosOk eqsOk trivial trivial
theorem Ef59_palaverref11_bounds (x : ((Int × (Int × (Int × (Int × (Int × (Int × (Int × (Int × (Int × (Int × (Int × Sl))))))))))) × Bool)) : evF Cf59_palaverref11_bounds Try.f59 54 (.pair (.agg (.pair (.int .i64) (.pair (.int .i64) (.pair (.int .i64) (.pair (.int .i64) (.pair (.int .i64) (.pair (.int .i64) (.pair (.int .i64) (.pair (.int .i64) (.pair (.int .i64) (.pair (.int .i64) (.pair (.int .i64) .sl)))))))))))) .bool) .bool Af59_palaverref11_bounds x = f59_palaverref11_bounds x.1 x.2 := by kernel_rfl
theorem Sf59_palaverref11_bounds : SoundF Try.prog 59 ⟨(.pair (.agg (.pair (.int .i64) (.pair (.int .i64) (.pair (.int .i64) (.pair (.int .i64) (.pair (.int .i64) (.pair (.int .i64) (.pair (.int .i64) (.pair (.int .i64) (.pair (.int .i64) (.pair (.int .i64) (.pair (.int .i64) .sl)))))))))))) .bool), .bool, fun x => f59_palaverref11_bounds x.1 x.2⟩ :=
  soundF_of Cf59_palaverref11_bounds_ok Try.func59 (by kernel_rfl) (by kernel_rfl) Ef59_palaverref11_bounds
noncomputable def Cf55_palaverref11_wrong : Ctx := mkC Try.prog tys zeros eqs [(15, ⟨(.agg (.pair (.int .i64) (.pair (.int .i64) (.pair (.int .i64) .sl)))), (.int .i64), fun x => f15_palaverref11_Check x⟩), (59, ⟨(.pair (.agg (.pair (.int .i64) (.pair (.int .i64) (.pair (.int .i64) (.pair (.int .i64) (.pair (.int .i64) (.pair (.int .i64) (.pair (.int .i64) (.pair (.int .i64) (.pair (.int .i64) (.pair (.int .i64) (.pair (.int .i64) .sl)))))))))))) .bool), .bool, fun x => f59_palaverref11_bounds x.1 x.2⟩)] []
/-- palaverpalaverref11.wrong -/
noncomputable def f55_palaverref11_wrong (x0 : (Int × (Int × (Int × Sl)))) (x1 : (Int × (Int × (Int × Sl)))) (x2 : (Int × (Int × (Int × (Int × (Int × (Int × (Int × (Int × (Int × (Int × (Int × Sl)))))))))))) : M Int :=
  bnd (newC 24 [.int .i64 x0.1, .int .i64 x0.2.1, .int .i64 x0.2.2.1, .slice x0.2.2.2.a x0.2.2.2.len x0.2.2.2.cap]) fun (p1 : Addr) =>
  bnd (newC 24 [.int .i64 x1.1, .int .i64 x1.2.1, .int .i64 x1.2.2.1, .slice x1.2.2.2.a x1.2.2.2.len x1.2.2.2.cap]) fun (p2 : Addr) =>
  bnd (newC 52 [.int .i64 x2.1, .int .i64 x2.2.1, .int .i64 x2.2.2.1, .int .i64 x2.2.2.2.1, .int .i64 x2.2.2.2.2.1, .int .i64 x2.2.2.2.2.2.1, .int .i64 x2.2.2.2.2.2.2.1, .int .i64 x2.2.2.2.2.2.2.2.1, .int .i64 x2.2.2.2.2.2.2.2.2.1, .int .i64 x2.2.2.2.2.2.2.2.2.2.1, .int .i64 x2.2.2.2.2.2.2.2.2.2.2.1, .slice x2.2.2.2.2.2.2.2.2.2.2.2.a x2.2.2.2.2.2.2.2.2.2.2.2.len x2.2.2.2.2.2.2.2.2.2.2.2.cap]) fun (p3 : Addr) =>
  bnd (ld (.agg (.pair (.int .i64) (.pair (.int .i64) (.pair (.int .i64) .sl)))) p1) fun (v4 : (Int × (Int × (Int × Sl)))) =>
  bnd (f15_palaverref11_Check v4) fun (r5 : Int) =>
  cnd (r5 != (0 : Int)) (
  ret r5) (
  bnd (ld (.agg (.pair (.int .i64) (.pair (.int .i64) (.pair (.int .i64) .sl)))) p2) fun (v6 : (Int × (Int × (Int × Sl)))) =>
  bnd (f15_palaverref11_Check v6) fun (r7 : Int) =>
  cnd (r7 != (0 : Int)) (
  ret r7) (
  bnd (ld (.int .i64) (Addr.add p1 2)) fun (v8 : Int) =>
  bnd (ld (.int .i64) (Addr.add p2 2)) fun (v9 : Int) =>
  cnd (v8 != v9) (
  ret (110 : Int)) (
  bnd (ld (.int .i64) (Addr.add p3 0)) fun (v10 : Int) =>
  bnd (
  cnd (decide (v10 < (0 : Int))) (
  ret true) (
  bnd (ld (.int .i64) (Addr.add p3 0)) fun (v11 : Int) =>
  ret (decide (v11 > (15 : Int))))) fun (b12 : Bool) =>
  cnd b12 (
  ret (111 : Int)) (
  bnd (ld (.agg (.pair (.int .i64) (.pair (.int .i64) (.pair (.int .i64) (.pair (.int .i64) (.pair (.int .i64) (.pair (.int .i64) (.pair (.int .i64) (.pair (.int .i64) (.pair (.int .i64) (.pair (.int .i64) (.pair (.int .i64) .sl)))))))))))) p3) fun (v13 : (Int × (Int × (Int × (Int × (Int × (Int × (Int × (Int × (Int × (Int × (Int × Sl)))))))))))) =>
  bnd (f59_palaverref11_bounds v13 true) fun (r14 : Bool) =>
  cnd (!r14) (
  ret (1 : Int)) (
  ret (0 : Int))))))
noncomputable def Af55_palaverref11_wrong : Ann := (.two .nil (.two .nil (.two (.two .nil (.two (.two .nil .nil) .nil)) (.two .nil (.two (.two .nil (.two (.two .nil .nil) .nil)) (.two (.two .nil (.two (.two .nil .nil) .nil)) (.two (.two .nil (.two (.two .nil .nil) .nil)) (.two .nil (.two (.two .nil (.two (.two .nil .nil) .nil)) (.two .nil .nil))))))))))
theorem Cf55_palaverref11_wrong_ok : Cf55_palaverref11_wrong.Ok := mkC_ok mixed tysOk zerosOk eqsOk ⟨Sf15_palaverref11_Check, Sf59_palaverref11_bounds, trivial⟩ trivial
theorem Ef55_palaverref11_wrong (x : ((Int × (Int × (Int × Sl))) × ((Int × (Int × (Int × Sl))) × (Int × (Int × (Int × (Int × (Int × (Int × (Int × (Int × (Int × (Int × (Int × Sl)))))))))))))) : evF Cf55_palaverref11_wrong Try.f55 36 (.pair (.agg (.pair (.int .i64) (.pair (.int .i64) (.pair (.int .i64) .sl)))) (.pair (.agg (.pair (.int .i64) (.pair (.int .i64) (.pair (.int .i64) .sl)))) (.agg (.pair (.int .i64) (.pair (.int .i64) (.pair (.int .i64) (.pair (.int .i64) (.pair (.int .i64) (.pair (.int .i64) (.pair (.int .i64) (.pair (.int .i64) (.pair (.int .i64) (.pair (.int .i64) (.pair (.int .i64) .sl)))))))))))))) (.int .i64) Af55_palaverref11_wrong x = f55_palaverref11_wrong x.1 x.2.1 x.2.2 := by kernel_rfl
theorem Sf55_palaverref11_wrong : SoundF Try.prog 55 ⟨(.pair (.agg (.pair (.int .i64) (.pair (.int .i64) (.pair (.int .i64) .sl)))) (.pair (.agg (.pair (.int .i64) (.pair (.int .i64) (.pair (.int .i64) .sl)))) (.agg (.pair (.int .i64) (.pair (.int .i64) (.pair (.int .i64) (.pair (.int .i64) (.pair (.int .i64) (.pair (.int .i64) (.pair (.int .i64) (.pair (.int .i64) (.pair (.int .i64) (.pair (.int .i64) (.pair (.int .i64) .sl)))))))))))))), (.int .i64), fun x => f55_palaverref11_wrong x.1 x.2.1 x.2.2⟩ :=
  soundF_of Cf55_palaverref11_wrong_ok Try.func55 (by kernel_rfl) (by kernel_rfl) Ef55_palaverref11_wrong
noncomputable def Cf56_palaverref11_left : Ctx := mkC Try.prog tys zeros eqs [] []
/-- palaverpalaverref11.left -/
noncomputable def f56_palaverref11_left (x0 : (Int × (Int × (Int × Sl)))) (x1 : (Int × (Int × (Int × Sl)))) (x2 : (Int × (Int × (Int × (Int × (Int × (Int × (Int × (Int × (Int × (Int × (Int × Sl)))))))))))) (x3 : Int) (x4 : Int) : M Bool :=
  bnd (newC 24 [.int .i64 x0.1, .int .i64 x0.2.1, .int .i64 x0.2.2.1, .slice x0.2.2.2.a x0.2.2.2.len x0.2.2.2.cap]) fun (p1 : Addr) =>
  bnd (newC 24 [.int .i64 x1.1, .int .i64 x1.2.1, .int .i64 x1.2.2.1, .slice x1.2.2.2.a x1.2.2.2.len x1.2.2.2.cap]) fun (p2 : Addr) =>
  bnd (newC 52 [.int .i64 x2.1, .int .i64 x2.2.1, .int .i64 x2.2.2.1, .int .i64 x2.2.2.2.1, .int .i64 x2.2.2.2.2.1, .int .i64 x2.2.2.2.2.2.1, .int .i64 x2.2.2.2.2.2.2.1, .int .i64 x2.2.2.2.2.2.2.2.1, .int .i64 x2.2.2.2.2.2.2.2.2.1, .int .i64 x2.2.2.2.2.2.2.2.2.2.1, .int .i64 x2.2.2.2.2.2.2.2.2.2.2.1, .slice x2.2.2.2.2.2.2.2.2.2.2.2.a x2.2.2.2.2.2.2.2.2.2.2.2.len x2.2.2.2.2.2.2.2.2.2.2.2.cap]) fun (p3 : Addr) =>
  bnd (ld (.int .i64) (Addr.add p3 5)) fun (v4 : Int) =>
  bnd (ld (.int .i64) (Addr.add p3 1)) fun (v5 : Int) =>
  bnd (ld (.int .i64) (Addr.add p3 6)) fun (v6 : Int) =>
  bnd (ld (.int .i64) (Addr.add p3 2)) fun (v7 : Int) =>
  bnd (ld (.int .i64) (Addr.add p3 1)) fun (v8 : Int) =>
  bnd (
  cnd (decide (x3 ≥ v8)) (
  bnd (ld (.int .i64) (Addr.add p3 1)) fun (v9 : Int) =>
  bnd (ld (.int .i64) (Addr.add p3 3)) fun (v10 : Int) =>
  ret (decide (x3 < (IntKind.wrap .i64 (v9 + v10))))) (
  ret false)) fun (b11 : Bool) =>
  bnd (
  cnd b11 (
  bnd (ld (.int .i64) (Addr.add p3 2)) fun (v12 : Int) =>
  ret (decide (x4 ≥ v12))) (
  ret false)) fun (b13 : Bool) =>
  bnd (
  cnd b13 (
  bnd (ld (.int .i64) (Addr.add p3 2)) fun (v14 : Int) =>
  bnd (ld (.int .i64) (Addr.add p3 4)) fun (v15 : Int) =>
  ret (decide (x4 < (IntKind.wrap .i64 (v14 + v15))))) (
  ret false)) fun (b16 : Bool) =>
  bnd (ld (.int .i64) (Addr.add p3 7)) fun (v17 : Int) =>
  bnd (
  cnd (decide (x3 ≥ v17)) (
  bnd (ld (.int .i64) (Addr.add p3 7)) fun (v18 : Int) =>
  bnd (ld (.int .i64) (Addr.add p3 9)) fun (v19 : Int) =>
  ret (decide (x3 < (IntKind.wrap .i64 (v18 + v19))))) (
  ret false)) fun (b20 : Bool) =>
  bnd (
  cnd b20 (
  bnd (ld (.int .i64) (Addr.add p3 8)) fun (v21 : Int) =>
  ret (decide (x4 ≥ v21))) (
  ret false)) fun (b22 : Bool) =>
  bnd (
  cnd b22 (
  bnd (ld (.int .i64) (Addr.add p3 8)) fun (v23 : Int) =>
  bnd (ld (.int .i64) (Addr.add p3 10)) fun (v24 : Int) =>
  ret (decide (x4 < (IntKind.wrap .i64 (v23 + v24))))) (
  ret false)) fun (b25 : Bool) =>
  bnd (
  cnd (cond (cond b16 b25 false) (decide (x3 ≥ (0 : Int))) false) (
  bnd (ld (.int .i64) (Addr.add p1 0)) fun (v26 : Int) =>
  ret (decide (x3 < v26))) (
  ret false)) fun (b27 : Bool) =>
  bnd (
  cnd (cond b27 (decide (x4 ≥ (0 : Int))) false) (
  bnd (ld (.int .i64) (Addr.add p1 1)) fun (v28 : Int) =>
  ret (decide (x4 < v28))) (
  ret false)) fun (b29 : Bool) =>
  bnd (
  cnd (cond b29 (decide ((IntKind.wrap .i64 ((IntKind.wrap .i64 (v4 + x3)) - v5)) ≥ (0 : Int))) false) (
  bnd (ld (.int .i64) (Addr.add p2 0)) fun (v30 : Int) =>
  ret (decide ((IntKind.wrap .i64 ((IntKind.wrap .i64 (v4 + x3)) - v5)) < v30))) (
  ret false)) fun (b31 : Bool) =>
  bnd (
  cnd (cond b31 (decide ((IntKind.wrap .i64 ((IntKind.wrap .i64 (v6 + x4)) - v7)) ≥ (0 : Int))) false) (
  bnd (ld (.int .i64) (Addr.add p2 1)) fun (v32 : Int) =>
  ret (decide ((IntKind.wrap .i64 ((IntKind.wrap .i64 (v6 + x4)) - v7)) < v32))) (
  ret false)) fun (b33 : Bool) =>
  ret b33
noncomputable def Af56_palaverref11_left : Ann := (.two .nil (.two .nil (.two .nil (.two .nil (.two .nil (.two .nil .nil))))))
theorem Cf56_palaverref11_left_ok : Cf56_palaverref11_left.Ok := mkC_ok mixed tysOk zerosOk eqsOk trivial trivial
theorem Ef56_palaverref11_left (x : ((Int × (Int × (Int × Sl))) × ((Int × (Int × (Int × Sl))) × ((Int × (Int × (Int × (Int × (Int × (Int × (Int × (Int × (Int × (Int × (Int × Sl))))))))))) × (Int × Int))))) : evF Cf56_palaverref11_left Try.f56 129 (.pair (.agg (.pair (.int .i64) (.pair (.int .i64) (.pair (.int .i64) .sl)))) (.pair (.agg (.pair (.int .i64) (.pair (.int .i64) (.pair (.int .i64) .sl)))) (.pair (.agg (.pair (.int .i64) (.pair (.int .i64) (.pair (.int .i64) (.pair (.int .i64) (.pair (.int .i64) (.pair (.int .i64) (.pair (.int .i64) (.pair (.int .i64) (.pair (.int .i64) (.pair (.int .i64) (.pair (.int .i64) .sl)))))))))))) (.pair (.int .i64) (.int .i64))))) .bool Af56_palaverref11_left x = f56_palaverref11_left x.1 x.2.1 x.2.2.1 x.2.2.2.1 x.2.2.2.2 := by kernel_rfl
theorem Sf56_palaverref11_left : SoundF Try.prog 56 ⟨(.pair (.agg (.pair (.int .i64) (.pair (.int .i64) (.pair (.int .i64) .sl)))) (.pair (.agg (.pair (.int .i64) (.pair (.int .i64) (.pair (.int .i64) .sl)))) (.pair (.agg (.pair (.int .i64) (.pair (.int .i64) (.pair (.int .i64) (.pair (.int .i64) (.pair (.int .i64) (.pair (.int .i64) (.pair (.int .i64) (.pair (.int .i64) (.pair (.int .i64) (.pair (.int .i64) (.pair (.int .i64) .sl)))))))))))) (.pair (.int .i64) (.int .i64))))), .bool, fun x => f56_palaverref11_left x.1 x.2.1 x.2.2.1 x.2.2.2.1 x.2.2.2.2⟩ :=
  soundF_of Cf56_palaverref11_left_ok Try.func56 (by kernel_rfl) (by kernel_rfl) Ef56_palaverref11_left
noncomputable def Cf26_palaverref11_Clip : Ctx := mkC Try.prog tys zeros eqs [(55, ⟨(.pair (.agg (.pair (.int .i64) (.pair (.int .i64) (.pair (.int .i64) .sl)))) (.pair (.agg (.pair (.int .i64) (.pair (.int .i64) (.pair (.int .i64) .sl)))) (.agg (.pair (.int .i64) (.pair (.int .i64) (.pair (.int .i64) (.pair (.int .i64) (.pair (.int .i64) (.pair (.int .i64) (.pair (.int .i64) (.pair (.int .i64) (.pair (.int .i64) (.pair (.int .i64) (.pair (.int .i64) .sl)))))))))))))), (.int .i64), fun x => f55_palaverref11_wrong x.1 x.2.1 x.2.2⟩), (56, ⟨(.pair (.agg (.pair (.int .i64) (.pair (.int .i64) (.pair (.int .i64) .sl)))) (.pair (.agg (.pair (.int .i64) (.pair (.int .i64) (.pair (.int .i64) .sl)))) (.pair (.agg (.pair (.int .i64) (.pair (.int .i64) (.pair (.int .i64) (.pair (.int .i64) (.pair (.int .i64) (.pair (.int .i64) (.pair (.int .i64) (.pair (.int .i64) (.pair (.int .i64) (.pair (.int .i64) (.pair (.int .i64) .sl)))))))))))) (.pair (.int .i64) (.int .i64))))), .bool, fun x => f56_palaverref11_left x.1 x.2.1 x.2.2.1 x.2.2.2.1 x.2.2.2.2⟩)] []
/-- palaverpalaverref11.Clip -/
noncomputable def f26_palaverref11_Clip (x0 : (Int × (Int × (Int × Sl)))) (x1 : (Int × (Int × (Int × Sl)))) (x2 : (Int × (Int × (Int × (Int × (Int × (Int × (Int × (Int × (Int × (Int × (Int × Sl)))))))))))) : M ((Int × (Int × (Int × (Int × (Int × (Int × (Int × (Int × (Int × (Int × (Int × Sl))))))))))) × Int) :=
  bnd (newC 24 [.int .i64 x0.1, .int .i64 x0.2.1, .int .i64 x0.2.2.1, .slice x0.2.2.2.a x0.2.2.2.len x0.2.2.2.cap]) fun (p1 : Addr) =>
  bnd (newC 24 [.int .i64 x1.1, .int .i64 x1.2.1, .int .i64 x1.2.2.1, .slice x1.2.2.2.a x1.2.2.2.len x1.2.2.2.cap]) fun (p2 : Addr) =>
  bnd (newC 52 [.int .i64 x2.1, .int .i64 x2.2.1, .int .i64 x2.2.2.1, .int .i64 x2.2.2.2.1, .int .i64 x2.2.2.2.2.1, .int .i64 x2.2.2.2.2.2.1, .int .i64 x2.2.2.2.2.2.2.1, .int .i64 x2.2.2.2.2.2.2.2.1, .int .i64 x2.2.2.2.2.2.2.2.2.1, .int .i64 x2.2.2.2.2.2.2.2.2.2.1, .int .i64 x2.2.2.2.2.2.2.2.2.2.2.1, .slice x2.2.2.2.2.2.2.2.2.2.2.2.a x2.2.2.2.2.2.2.2.2.2.2.2.len x2.2.2.2.2.2.2.2.2.2.2.2.cap]) fun (p3 : Addr) =>
  bnd (newC 52 [.int .i64 (0 : Int), .int .i64 (0 : Int), .int .i64 (0 : Int), .int .i64 (0 : Int), .int .i64 (0 : Int), .int .i64 (0 : Int), .int .i64 (0 : Int), .int .i64 (0 : Int), .int .i64 (0 : Int), .int .i64 (0 : Int), .int .i64 (0 : Int), .slice none 0 0]) fun (p4 : Addr) =>
  bnd (ld (.agg (.pair (.int .i64) (.pair (.int .i64) (.pair (.int .i64) .sl)))) p1) fun (v5 : (Int × (Int × (Int × Sl)))) =>
  bnd (ld (.agg (.pair (.int .i64) (.pair (.int .i64) (.pair (.int .i64) .sl)))) p2) fun (v6 : (Int × (Int × (Int × Sl)))) =>
  bnd (ld (.agg (.pair (.int .i64) (.pair (.int .i64) (.pair (.int .i64) (.pair (.int .i64) (.pair (.int .i64) (.pair (.int .i64) (.pair (.int .i64) (.pair (.int .i64) (.pair (.int .i64) (.pair (.int .i64) (.pair (.int .i64) .sl)))))))))))) p3) fun (v7 : (Int × (Int × (Int × (Int × (Int × (Int × (Int × (Int × (Int × (Int × (Int × Sl)))))))))))) =>
  bnd (f55_palaverref11_wrong v5 v6 v7) fun (r8 : Int) =>
  cnd (r8 != (0 : Int)) (
  bnd (wrs p4 0 [.int .i64 (0 : Int), .int .i64 (0 : Int), .int .i64 (0 : Int), .int .i64 (0 : Int), .int .i64 (0 : Int), .int .i64 (0 : Int), .int .i64 (0 : Int), .int .i64 (0 : Int), .int .i64 (0 : Int), .int .i64 (0 : Int), .int .i64 (0 : Int), .slice none 0 0]) fun _ =>
  bnd (ld (.agg (.pair (.int .i64) (.pair (.int .i64) (.pair (.int .i64) (.pair (.int .i64) (.pair (.int .i64) (.pair (.int .i64) (.pair (.int .i64) (.pair (.int .i64) (.pair (.int .i64) (.pair (.int .i64) (.pair (.int .i64) .sl)))))))))))) p4) fun (v9 : (Int × (Int × (Int × (Int × (Int × (Int × (Int × (Int × (Int × (Int × (Int × Sl)))))))))))) =>
  ret (v9, r8)) (
  bnd (ld (.agg (.pair (.int .i64) (.pair (.int .i64) (.pair (.int .i64) (.pair (.int .i64) (.pair (.int .i64) (.pair (.int .i64) (.pair (.int .i64) (.pair (.int .i64) (.pair (.int .i64) (.pair (.int .i64) (.pair (.int .i64) .sl)))))))))))) p3) fun (v10 : (Int × (Int × (Int × (Int × (Int × (Int × (Int × (Int × (Int × (Int × (Int × Sl)))))))))))) =>
  bnd (newC 52 [.int .i64 (0 : Int), .int .i64 (0 : Int), .int .i64 (0 : Int), .int .i64 (0 : Int), .int .i64 (0 : Int), .int .i64 (0 : Int), .int .i64 (0 : Int), .int .i64 (0 : Int), .int .i64 (0 : Int), .int .i64 (0 : Int), .int .i64 (0 : Int), .slice none 0 0]) fun (p11 : Addr) =>
  bnd (wrs p11 0 [.int .i64 v10.1, .int .i64 v10.2.1, .int .i64 v10.2.2.1, .int .i64 v10.2.2.2.1, .int .i64 v10.2.2.2.2.1, .int .i64 v10.2.2.2.2.2.1, .int .i64 v10.2.2.2.2.2.2.1, .int .i64 v10.2.2.2.2.2.2.2.1, .int .i64 v10.2.2.2.2.2.2.2.2.1, .int .i64 v10.2.2.2.2.2.2.2.2.2.1, .int .i64 v10.2.2.2.2.2.2.2.2.2.2.1, .slice v10.2.2.2.2.2.2.2.2.2.2.2.a v10.2.2.2.2.2.2.2.2.2.2.2.len v10.2.2.2.2.2.2.2.2.2.2.2.cap]) fun _ =>
  bnd (wrs (Addr.add p11 1) 0 [.int .i64 (0 : Int)]) fun _ =>
  bnd (wrs (Addr.add p11 2) 0 [.int .i64 (0 : Int)]) fun _ =>
  bnd (wrs (Addr.add p11 5) 0 [.int .i64 (0 : Int)]) fun _ =>
  bnd (wrs (Addr.add p11 6) 0 [.int .i64 (0 : Int)]) fun _ =>
  bnd (wrs (Addr.add p11 3) 0 [.int .i64 (0 : Int)]) fun _ =>
  bnd (wrs (Addr.add p11 4) 0 [.int .i64 (0 : Int)]) fun _ =>
  loopM (fun (s12 : Int) =>
  bnd (ld (.int .i64) (Addr.add p1 1)) fun (v13 : Int) =>
  cnd (decide (s12 < v13)) (
  loopM (fun (s14 : Int) =>
  bnd (ld (.int .i64) (Addr.add p1 0)) fun (v15 : Int) =>
  cnd (decide (s14 < v15)) (
  bnd (
  bnd (ld (.agg (.pair (.int .i64) (.pair (.int .i64) (.pair (.int .i64) .sl)))) p1) fun (v17 : (Int × (Int × (Int × Sl)))) =>
  bnd (ld (.agg (.pair (.int .i64) (.pair (.int .i64) (.pair (.int .i64) .sl)))) p2) fun (v18 : (Int × (Int × (Int × Sl)))) =>
  bnd (ld (.agg (.pair (.int .i64) (.pair (.int .i64) (.pair (.int .i64) (.pair (.int .i64) (.pair (.int .i64) (.pair (.int .i64) (.pair (.int .i64) (.pair (.int .i64) (.pair (.int .i64) (.pair (.int .i64) (.pair (.int .i64) .sl)))))))))))) p3) fun (v19 : (Int × (Int × (Int × (Int × (Int × (Int × (Int × (Int × (Int × (Int × (Int × Sl)))))))))))) =>
  bnd (f56_palaverref11_left v17 v18 v19 s14 s12) fun (r20 : Bool) =>
  cnd (!r20) (
  ret ()) (
  bnd (ld (.int .i64) (Addr.add p11 3)) fun (v21 : Int) =>
  bnd (
  cnd (v21 == (0 : Int)) (
  bnd (wrs (Addr.add p11 1) 0 [.int .i64 s14]) fun _ =>
  bnd (wrs (Addr.add p11 2) 0 [.int .i64 s12]) fun _ =>
  bnd (ld (.int .i64) (Addr.add p3 5)) fun (v23 : Int) =>
  bnd (ld (.int .i64) (Addr.add p3 1)) fun (v24 : Int) =>
  bnd (wrs (Addr.add p11 5) 0 [.int .i64 (IntKind.wrap .i64 ((IntKind.wrap .i64 (v23 + s14)) - v24))]) fun _ =>
  bnd (ld (.int .i64) (Addr.add p3 6)) fun (v25 : Int) =>
  bnd (ld (.int .i64) (Addr.add p3 2)) fun (v26 : Int) =>
  bnd (wrs (Addr.add p11 6) 0 [.int .i64 (IntKind.wrap .i64 ((IntKind.wrap .i64 (v25 + s12)) - v26))]) fun _ =>
  ret ()) (
  ret ())) fun (s22 : Unit) =>
  bnd (ld (.int .i64) (Addr.add p11 1)) fun (v27 : Int) =>
  bnd (wrs (Addr.add p11 3) 0 [.int .i64 (IntKind.wrap .i64 ((IntKind.wrap .i64 (s14 - v27)) + (1 : Int)))]) fun _ =>
  bnd (ld (.int .i64) (Addr.add p11 2)) fun (v28 : Int) =>
  bnd (wrs (Addr.add p11 4) 0 [.int .i64 (IntKind.wrap .i64 ((IntKind.wrap .i64 (s12 - v28)) + (1 : Int)))]) fun _ =>
  ret ())) fun (s16 : Unit) =>
  ret (Sum.inl (IntKind.wrap .i64 (s14 + (1 : Int))))) (
  ret (Sum.inr (Sum.inl (IntKind.wrap .i64 (s12 + (1 : Int))))))) (0 : Int)) (
  bnd (
  bnd (ld (.agg (.pair (.int .i64) (.pair (.int .i64) (.pair (.int .i64) (.pair (.int .i64) (.pair (.int .i64) (.pair (.int .i64) (.pair (.int .i64) (.pair (.int .i64) (.pair (.int .i64) (.pair (.int .i64) (.pair (.int .i64) .sl)))))))))))) p11) fun (v29 : (Int × (Int × (Int × (Int × (Int × (Int × (Int × (Int × (Int × (Int × (Int × Sl)))))))))))) =>
  bnd (wrs p4 0 [.int .i64 v29.1, .int .i64 v29.2.1, .int .i64 v29.2.2.1, .int .i64 v29.2.2.2.1, .int .i64 v29.2.2.2.2.1, .int .i64 v29.2.2.2.2.2.1, .int .i64 v29.2.2.2.2.2.2.1, .int .i64 v29.2.2.2.2.2.2.2.1, .int .i64 v29.2.2.2.2.2.2.2.2.1, .int .i64 v29.2.2.2.2.2.2.2.2.2.1, .int .i64 v29.2.2.2.2.2.2.2.2.2.2.1, .slice v29.2.2.2.2.2.2.2.2.2.2.2.a v29.2.2.2.2.2.2.2.2.2.2.2.len v29.2.2.2.2.2.2.2.2.2.2.2.cap]) fun _ =>
  bnd (ld (.agg (.pair (.int .i64) (.pair (.int .i64) (.pair (.int .i64) (.pair (.int .i64) (.pair (.int .i64) (.pair (.int .i64) (.pair (.int .i64) (.pair (.int .i64) (.pair (.int .i64) (.pair (.int .i64) (.pair (.int .i64) .sl)))))))))))) p4) fun (v30 : (Int × (Int × (Int × (Int × (Int × (Int × (Int × (Int × (Int × (Int × (Int × Sl)))))))))))) =>
  ret (v30, (0 : Int))) fun r31 =>
  ret (Sum.inr r31))) (0 : Int))
noncomputable def Af26_palaverref11_Clip : Ann := (.two .nil (.two .nil (.two (.two .nil (.two (.two .nil .nil) .nil)) (.two .nil (.two .nil (.two .nil (.two .nil (.two .nil (.two .nil (.two .nil (.two (.two .nil (.one (.loop [(10, (.int .i64))] [11, 12, 28, 29, 30, 31, 32, 33, 34, 35, 36, 37, 38, 39, 40, 41, 42, 43, 44, 45, 46, 47, 48, 49, 50, 51, 52, 53, 54, 55, 56, 57, 58, 59, 60, 61, 62, 63, 64, 65, 66, 67, 68, 69, 70, 71, 72, 73, 74, 75, 76, 77, 78, 79, 80, 81, 82] (.two (.two .nil (.two .nil .nil)) (.two (.one (.two .nil (.one (.loop [(11, (.int .i64))] [12, 34, 35, 36, 37, 38, 39, 40, 41, 42, 43, 44, 45, 46, 47, 48, 49, 50, 51, 52, 53, 54, 55, 56, 57, 58, 59, 60, 61, 62, 63, 64, 65, 66, 67, 68, 69, 70, 71, 72, 73, 74, 75, 76, 77, 78, 79, 80, 81, 82] (.two (.two .nil (.two .nil .nil)) (.two (.join [] [12, 40, 41, 42, 43, 44, 45, 46, 47, 48, 49, 50, 51, 52, 53, 54, 55, 56, 57, 58, 59, 60, 61, 62, 63, 64, 65, 66, 67, 68, 69, 70, 71, 72, 73, 74, 75, 76, 77, 78, 79, 80, 81, 82] false (.one (.two .nil (.two (.two .nil (.two .nil .nil)) (.two (.two .nil (.join [] [51, 52, 53, 54, 55, 56, 57, 58, 59, 60, 61, 62, 63, 64, 65, 66, 67, 68, 69, 70] false (.two (.two .nil (.two .nil (.two .nil .nil))) .nil))) (.two .nil .nil)))))) .nil)))))) .nil))))) (.two .nil .nil))))))))))))
theorem Cf26_palaverref11_Clip_ok : Cf26_palaverref11_Clip.Ok := mkC_ok mixed tysOk zerosOk eqsOk ⟨Sf55_palaverref11_wrong, Sf56_palaverref11_left, trivial⟩ trivial
theorem Ef26_palaverref11_Clip (x : ((Int × (Int × (Int × Sl))) × ((Int × (Int × (Int × Sl))) × (Int × (Int × (Int × (Int × (Int × (Int × (Int × (Int × (Int × (Int × (Int × Sl)))))))))))))) : evF Cf26_palaverref11_Clip Try.f26 84 (.pair (.agg (.pair (.int .i64) (.pair (.int .i64) (.pair (.int .i64) .sl)))) (.pair (.agg (.pair (.int .i64) (.pair (.int .i64) (.pair (.int .i64) .sl)))) (.agg (.pair (.int .i64) (.pair (.int .i64) (.pair (.int .i64) (.pair (.int .i64) (.pair (.int .i64) (.pair (.int .i64) (.pair (.int .i64) (.pair (.int .i64) (.pair (.int .i64) (.pair (.int .i64) (.pair (.int .i64) .sl)))))))))))))) (.tup (.pair (.agg (.pair (.int .i64) (.pair (.int .i64) (.pair (.int .i64) (.pair (.int .i64) (.pair (.int .i64) (.pair (.int .i64) (.pair (.int .i64) (.pair (.int .i64) (.pair (.int .i64) (.pair (.int .i64) (.pair (.int .i64) .sl)))))))))))) (.int .i64))) Af26_palaverref11_Clip x = f26_palaverref11_Clip x.1 x.2.1 x.2.2 := by kernel_rfl
theorem Sf26_palaverref11_Clip : SoundF Try.prog 26 ⟨(.pair (.agg (.pair (.int .i64) (.pair (.int .i64) (.pair (.int .i64) .sl)))) (.pair (.agg (.pair (.int .i64) (.pair (.int .i64) (.pair (.int .i64) .sl)))) (.agg (.pair (.int .i64) (.pair (.int .i64) (.pair (.int .i64) (.pair (.int .i64) (.pair (.int .i64) (.pair (.int .i64) (.pair (.int .i64) (.pair (.int .i64) (.pair (.int .i64) (.pair (.int .i64) (.pair (.int .i64) .sl)))))))))))))), (.tup (.pair (.agg (.pair (.int .i64) (.pair (.int .i64) (.pair (.int .i64) (.pair (.int .i64) (.pair (.int .i64) (.pair (.int .i64) (.pair (.int .i64) (.pair (.int .i64) (.pair (.int .i64) (.pair (.int .i64) (.pair (.int .i64) .sl)))))))))))) (.int .i64))), fun x => f26_palaverref11_Clip x.1 x.2.1 x.2.2⟩ :=
  soundF_of Cf26_palaverref11_Clip_ok Try.func26 (by kernel_rfl) (by kernel_rfl) Ef26_palaverref11_Clip
noncomputable def Cf28_bitblt_Copy : Ctx := mkC Try.prog tys zeros eqs [(25, ⟨(.pair (.agg (.pair (.int .i64) (.pair (.int .i64) (.pair (.int .i64) .sl)))) (.pair (.agg (.pair (.int .i64) (.pair (.int .i64) (.pair (.int .i64) .sl)))) (.agg (.pair (.int .i64) (.pair (.int .i64) (.pair (.int .i64) (.pair (.int .i64) (.pair (.int .i64) (.pair (.int .i64) (.pair (.int .i64) (.pair (.int .i64) (.pair (.int .i64) (.pair (.int .i64) (.pair (.int .i64) .sl)))))))))))))), (.tup (.pair (.agg (.pair (.int .i64) (.pair (.int .i64) (.pair (.int .i64) (.pair (.int .i64) (.pair (.int .i64) (.pair (.int .i64) (.pair (.int .i64) (.pair (.int .i64) (.pair (.int .i64) (.pair (.int .i64) (.pair (.int .i64) .sl)))))))))))) (.int .i64))), fun x => f25_bitblt_Clip x.1 x.2.1 x.2.2⟩), (40, ⟨.sl, .sl, fun x => f40_slices_Cloneuint32_uint32 x⟩), (57, ⟨(.pair (.agg (.pair (.int .i64) (.pair (.int .i64) (.pair (.int .i64) .sl)))) (.pair (.agg (.pair (.int .i64) (.pair (.int .i64) (.pair (.int .i64) .sl)))) (.agg (.pair (.int .i64) (.pair (.int .i64) (.pair (.int .i64) (.pair (.int .i64) (.pair (.int .i64) (.pair (.int .i64) (.pair (.int .i64) (.pair (.int .i64) (.pair (.int .i64) (.pair (.int .i64) (.pair (.int .i64) .sl)))))))))))))), (.tup .unit), fun x => f57_bitblt_run x.1 x.2.1 x.2.2⟩)] []
/-- palaverbitblt.Copy -/
noncomputable def f28_bitblt_Copy (x0 : (Int × (Int × (Int × Sl)))) (x1 : (Int × (Int × (Int × Sl)))) (x2 : (Int × (Int × (Int × (Int × (Int × (Int × (Int × (Int × (Int × (Int × (Int × Sl)))))))))))) : M ((Int × (Int × (Int × Sl))) × Int) :=
  bnd (newC 24 [.int .i64 x0.1, .int .i64 x0.2.1, .int .i64 x0.2.2.1, .slice x0.2.2.2.a x0.2.2.2.len x0.2.2.2.cap]) fun (p1 : Addr) =>
  bnd (newC 24 [.int .i64 x1.1, .int .i64 x1.2.1, .int .i64 x1.2.2.1, .slice x1.2.2.2.a x1.2.2.2.len x1.2.2.2.cap]) fun (p2 : Addr) =>
  bnd (newC 52 [.int .i64 x2.1, .int .i64 x2.2.1, .int .i64 x2.2.2.1, .int .i64 x2.2.2.2.1, .int .i64 x2.2.2.2.2.1, .int .i64 x2.2.2.2.2.2.1, .int .i64 x2.2.2.2.2.2.2.1, .int .i64 x2.2.2.2.2.2.2.2.1, .int .i64 x2.2.2.2.2.2.2.2.2.1, .int .i64 x2.2.2.2.2.2.2.2.2.2.1, .int .i64 x2.2.2.2.2.2.2.2.2.2.2.1, .slice x2.2.2.2.2.2.2.2.2.2.2.2.a x2.2.2.2.2.2.2.2.2.2.2.2.len x2.2.2.2.2.2.2.2.2.2.2.2.cap]) fun (p3 : Addr) =>
  bnd (newC 24 [.int .i64 (0 : Int), .int .i64 (0 : Int), .int .i64 (0 : Int), .slice none 0 0]) fun (p4 : Addr) =>
  bnd (ld (.agg (.pair (.int .i64) (.pair (.int .i64) (.pair (.int .i64) .sl)))) p1) fun (v5 : (Int × (Int × (Int × Sl)))) =>
  bnd (ld (.agg (.pair (.int .i64) (.pair (.int .i64) (.pair (.int .i64) .sl)))) p2) fun (v6 : (Int × (Int × (Int × Sl)))) =>
  bnd (ld (.agg (.pair (.int .i64) (.pair (.int .i64) (.pair (.int .i64) (.pair (.int .i64) (.pair (.int .i64) (.pair (.int .i64) (.pair (.int .i64) (.pair (.int .i64) (.pair (.int .i64) (.pair (.int .i64) (.pair (.int .i64) .sl)))))))))))) p3) fun (v7 : (Int × (Int × (Int × (Int × (Int × (Int × (Int × (Int × (Int × (Int × (Int × Sl)))))))))))) =>
  bnd (f25_bitblt_Clip v5 v6 v7) fun (r8 : ((Int × (Int × (Int × (Int × (Int × (Int × (Int × (Int × (Int × (Int × (Int × Sl))))))))))) × Int)) =>
  bnd (newC 52 [.int .i64 (0 : Int), .int .i64 (0 : Int), .int .i64 (0 : Int), .int .i64 (0 : Int), .int .i64 (0 : Int), .int .i64 (0 : Int), .int .i64 (0 : Int), .int .i64 (0 : Int), .int .i64 (0 : Int), .int .i64 (0 : Int), .int .i64 (0 : Int), .slice none 0 0]) fun (p9 : Addr) =>
  bnd (wrs p9 0 [.int .i64 r8.1.1, .int .i64 r8.1.2.1, .int .i64 r8.1.2.2.1, .int .i64 r8.1.2.2.2.1, .int .i64 r8.1.2.2.2.2.1, .int .i64 r8.1.2.2.2.2.2.1, .int .i64 r8.1.2.2.2.2.2.2.1, .int .i64 r8.1.2.2.2.2.2.2.2.1, .int .i64 r8.1.2.2.2.2.2.2.2.2.1, .int .i64 r8.1.2.2.2.2.2.2.2.2.2.1, .int .i64 r8.1.2.2.2.2.2.2.2.2.2.2.1, .slice r8.1.2.2.2.2.2.2.2.2.2.2.2.a r8.1.2.2.2.2.2.2.2.2.2.2.2.len r8.1.2.2.2.2.2.2.2.2.2.2.2.cap]) fun _ =>
  cnd (r8.2 != (0 : Int)) (
  bnd (wrs p4 0 [.int .i64 (0 : Int), .int .i64 (0 : Int), .int .i64 (0 : Int), .slice none 0 0]) fun _ =>
  bnd (ld (.agg (.pair (.int .i64) (.pair (.int .i64) (.pair (.int .i64) .sl)))) p4) fun (v10 : (Int × (Int × (Int × Sl)))) =>
  ret (v10, r8.2)) (
  bnd (ld .sl (Addr.add p1 3)) fun (v11 : Sl) =>
  bnd (f40_slices_Cloneuint32_uint32 v11) fun (r12 : Sl) =>
  bnd (wrs (Addr.add p1 3) 0 [.slice r12.a r12.len r12.cap]) fun _ =>
  bnd (ld (.agg (.pair (.int .i64) (.pair (.int .i64) (.pair (.int .i64) .sl)))) p1) fun (v13 : (Int × (Int × (Int × Sl)))) =>
  bnd (ld (.agg (.pair (.int .i64) (.pair (.int .i64) (.pair (.int .i64) .sl)))) p2) fun (v14 : (Int × (Int × (Int × Sl)))) =>
  bnd (ld (.agg (.pair (.int .i64) (.pair (.int .i64) (.pair (.int .i64) (.pair (.int .i64) (.pair (.int .i64) (.pair (.int .i64) (.pair (.int .i64) (.pair (.int .i64) (.pair (.int .i64) (.pair (.int .i64) (.pair (.int .i64) .sl)))))))))))) p9) fun (v15 : (Int × (Int × (Int × (Int × (Int × (Int × (Int × (Int × (Int × (Int × (Int × Sl)))))))))))) =>
  bnd (f57_bitblt_run v13 v14 v15) fun (r16 : Unit) =>
  bnd (ld (.agg (.pair (.int .i64) (.pair (.int .i64) (.pair (.int .i64) .sl)))) p1) fun (v17 : (Int × (Int × (Int × Sl)))) =>
  bnd (wrs p4 0 [.int .i64 v17.1, .int .i64 v17.2.1, .int .i64 v17.2.2.1, .slice v17.2.2.2.a v17.2.2.2.len v17.2.2.2.cap]) fun _ =>
  bnd (ld (.agg (.pair (.int .i64) (.pair (.int .i64) (.pair (.int .i64) .sl)))) p4) fun (v18 : (Int × (Int × (Int × Sl)))) =>
  ret (v18, (0 : Int)))
noncomputable def Af28_bitblt_Copy : Ann := (.two .nil (.two .nil (.two (.two .nil (.two (.two .nil .nil) .nil)) (.two .nil (.two .nil (.two .nil .nil))))))
theorem Cf28_bitblt_Copy_ok : Cf28_bitblt_Copy.Ok := mkC_ok mixed tysOk zerosOk eqsOk ⟨Sf25_bitblt_Clip, Sf40_slices_Cloneuint32_uint32, Sf57_bitblt_run, trivial⟩ trivial
theorem Ef28_bitblt_Copy (x : ((Int × (Int × (Int × Sl))) × ((Int × (Int × (Int × Sl))) × (Int × (Int × (Int × (Int × (Int × (Int × (Int × (Int × (Int × (Int × (Int × Sl)))))))))))))) : evF Cf28_bitblt_Copy Try.f28 30 (.pair (.agg (.pair (.int .i64) (.pair (.int .i64) (.pair (.int .i64) .sl)))) (.pair (.agg (.pair (.int .i64) (.pair (.int .i64) (.pair (.int .i64) .sl)))) (.agg (.pair (.int .i64) (.pair (.int .i64) (.pair (.int .i64) (.pair (.int .i64) (.pair (.int .i64) (.pair (.int .i64) (.pair (.int .i64) (.pair (.int .i64) (.pair (.int .i64) (.pair (.int .i64) (.pair (.int .i64) .sl)))))))))))))) (.tup (.pair (.agg (.pair (.int .i64) (.pair (.int .i64) (.pair (.int .i64) .sl)))) (.int .i64))) Af28_bitblt_Copy x = f28_bitblt_Copy x.1 x.2.1 x.2.2 := by kernel_rfl
theorem Sf28_bitblt_Copy : SoundF Try.prog 28 ⟨(.pair (.agg (.pair (.int .i64) (.pair (.int .i64) (.pair (.int .i64) .sl)))) (.pair (.agg (.pair (.int .i64) (.pair (.int .i64) (.pair (.int .i64) .sl)))) (.agg (.pair (.int .i64) (.pair (.int .i64) (.pair (.int .i64) (.pair (.int .i64) (.pair (.int .i64) (.pair (.int .i64) (.pair (.int .i64) (.pair (.int .i64) (.pair (.int .i64) (.pair (.int .i64) (.pair (.int .i64) .sl)))))))))))))), (.tup (.pair (.agg (.pair (.int .i64) (.pair (.int .i64) (.pair (.int .i64) .sl)))) (.int .i64))), fun x => f28_bitblt_Copy x.1 x.2.1 x.2.2⟩ :=
  soundF_of Cf28_bitblt_Copy_ok Try.func28 (by kernel_rfl) (by kernel_rfl) Ef28_bitblt_Copy
noncomputable def Cf58_palaverref11_tone : Ctx := mkC Try.prog tys zeros eqs [(41, ⟨(.int .i64), (.int .u32), fun x => f41_palaverref11_all x⟩)] []
/-- palaverpalaverref11.tone -/
noncomputable def f58_palaverref11_tone (x0 : (Int × (Int × (Int × (Int × (Int × (Int × (Int × (Int × (Int × (Int × (Int × Sl)))))))))))) (x1 : Int) (x2 : Int) (x3 : Int) : M Int :=
  bnd (newC 52 [.int .i64 x0.1, .int .i64 x0.2.1, .int .i64 x0.2.2.1, .int .i64 x0.2.2.2.1, .int .i64 x0.2.2.2.2.1, .int .i64 x0.2.2.2.2.2.1, .int .i64 x0.2.2.2.2.2.2.1, .int .i64 x0.2.2.2.2.2.2.2.1, .int .i64 x0.2.2.2.2.2.2.2.2.1, .int .i64 x0.2.2.2.2.2.2.2.2.2.1, .int .i64 x0.2.2.2.2.2.2.2.2.2.2.1, .slice x0.2.2.2.2.2.2.2.2.2.2.2.a x0.2.2.2.2.2.2.2.2.2.2.2.len x0.2.2.2.2.2.2.2.2.2.2.2.cap]) fun (p1 : Addr) =>
  bnd (ld .sl (Addr.add p1 11)) fun (v2 : Sl) =>
  cnd ((v2.len : Int) == (0 : Int)) (
  bnd (f41_palaverref11_all x1) fun (r3 : Int) =>
  ret r3) (
  bnd drawM fun _ =>
  bnd (ld .sl (Addr.add p1 11)) fun (v4 : Sl) =>
  bnd (ld .sl (Addr.add p1 11)) fun (v5 : Sl) =>
  bnd (nz (v5.len : Int)) fun _ =>
  bnd (ix 1 v4 (Int.tmod x3 (v5.len : Int))) fun (p6 : Addr) =>
  bnd (ld (.int .u32) p6) fun (v7 : Int) =>
  bnd (cnt (IntKind.wrap .u64 (IntKind.wrap .i64 ((IntKind.wrap .i64 ((32 : Int) - (Int.tmod (IntKind.wrap .i64 (x2 * x1)) (32 : Int)))) - x1)))) fun (c8 : Nat) =>
  bnd (f41_palaverref11_all x1) fun (r9 : Int) =>
  ret (bAnd .u32 (shrI .u32 v7 c8) r9))
noncomputable def Af58_palaverref11_tone : Ann := (.two .nil (.two (.two .nil (.two (.two .nil .nil) .nil)) (.two .nil (.two .nil .nil))))
theorem Cf58_palaverref11_tone_ok : Cf58_palaverref11_tone.Ok := mkC_ok mixed tysOk zerosOk eqsOk ⟨Sf41_palaverref11_all, trivial⟩ trivial
theorem Ef58_palaverref11_tone (x : ((Int × (Int × (Int × (Int × (Int × (Int × (Int × (Int × (Int × (Int × (Int × Sl))))))))))) × (Int × (Int × Int)))) : evF Cf58_palaverref11_tone Try.f58 38 (.pair (.agg (.pair (.int .i64) (.pair (.int .i64) (.pair (.int .i64) (.pair (.int .i64) (.pair (.int .i64) (.pair (.int .i64) (.pair (.int .i64) (.pair (.int .i64) (.pair (.int .i64) (.pair (.int .i64) (.pair (.int .i64) .sl)))))))))))) (.pair (.int .i64) (.pair (.int .i64) (.int .i64)))) (.int .u32) Af58_palaverref11_tone x = f58_palaverref11_tone x.1 x.2.1 x.2.2.1 x.2.2.2 := by kernel_rfl
theorem Sf58_palaverref11_tone : SoundF Try.prog 58 ⟨(.pair (.agg (.pair (.int .i64) (.pair (.int .i64) (.pair (.int .i64) (.pair (.int .i64) (.pair (.int .i64) (.pair (.int .i64) (.pair (.int .i64) (.pair (.int .i64) (.pair (.int .i64) (.pair (.int .i64) (.pair (.int .i64) .sl)))))))))))) (.pair (.int .i64) (.pair (.int .i64) (.int .i64)))), (.int .u32), fun x => f58_palaverref11_tone x.1 x.2.1 x.2.2.1 x.2.2.2⟩ :=
  soundF_of Cf58_palaverref11_tone_ok Try.func58 (by kernel_rfl) (by kernel_rfl) Ef58_palaverref11_tone
noncomputable def Cf29_palaverref11_Copy : Ctx := mkC Try.prog tys zeros eqs [(21, ⟨(.pair (.int .i64) (.pair (.int .u32) (.int .u32))), (.tup (.pair (.int .u32) (.int .i64))), fun x => f21_palaverref11_Rule x.1 x.2.1 x.2.2⟩), (39, ⟨(.pair (.agg (.pair (.int .i64) (.pair (.int .i64) (.pair (.int .i64) .sl)))) (.pair (.int .i64) (.int .i64))), (.int .u32), fun x => f39_palaverref11_get x.1 x.2.1 x.2.2⟩), (41, ⟨(.int .i64), (.int .u32), fun x => f41_palaverref11_all x⟩), (42, ⟨(.agg (.pair (.int .i64) (.pair (.int .i64) (.pair (.int .i64) .sl)))), (.agg (.pair (.int .i64) (.pair (.int .i64) (.pair (.int .i64) .sl)))), fun x => f42_palaverref11_like x⟩), (43, ⟨(.pair (.agg (.pair (.int .i64) (.pair (.int .i64) (.pair (.int .i64) .sl)))) (.pair (.int .i64) (.pair (.int .i64) (.int .u32)))), (.tup .unit), fun x => f43_palaverref11_put x.1 x.2.1 x.2.2.1 x.2.2.2⟩), (55, ⟨(.pair (.agg (.pair (.int .i64) (.pair (.int .i64) (.pair (.int .i64) .sl)))) (.pair (.agg (.pair (.int .i64) (.pair (.int .i64) (.pair (.int .i64) .sl)))) (.agg (.pair (.int .i64) (.pair (.int .i64) (.pair (.int .i64) (.pair (.int .i64) (.pair (.int .i64) (.pair (.int .i64) (.pair (.int .i64) (.pair (.int .i64) (.pair (.int .i64) (.pair (.int .i64) (.pair (.int .i64) .sl)))))))))))))), (.int .i64), fun x => f55_palaverref11_wrong x.1 x.2.1 x.2.2⟩), (56, ⟨(.pair (.agg (.pair (.int .i64) (.pair (.int .i64) (.pair (.int .i64) .sl)))) (.pair (.agg (.pair (.int .i64) (.pair (.int .i64) (.pair (.int .i64) .sl)))) (.pair (.agg (.pair (.int .i64) (.pair (.int .i64) (.pair (.int .i64) (.pair (.int .i64) (.pair (.int .i64) (.pair (.int .i64) (.pair (.int .i64) (.pair (.int .i64) (.pair (.int .i64) (.pair (.int .i64) (.pair (.int .i64) .sl)))))))))))) (.pair (.int .i64) (.int .i64))))), .bool, fun x => f56_palaverref11_left x.1 x.2.1 x.2.2.1 x.2.2.2.1 x.2.2.2.2⟩), (58, ⟨(.pair (.agg (.pair (.int .i64) (.pair (.int .i64) (.pair (.int .i64) (.pair (.int .i64) (.pair (.int .i64) (.pair (.int .i64) (.pair (.int .i64) (.pair (.int .i64) (.pair (.int .i64) (.pair (.int .i64) (.pair (.int .i64) .sl)))))))))))) (.pair (.int .i64) (.pair (.int .i64) (.int .i64)))), (.int .u32), fun x => f58_palaverref11_tone x.1 x.2.1 x.2.2.1 x.2.2.2⟩)] []
/-- palaverpalaverref11.Copy -/
noncomputable def f29_palaverref11_Copy (x0 : (Int × (Int × (Int × Sl)))) (x1 : (Int × (Int × (Int × Sl)))) (x2 : (Int × (Int × (Int × (Int × (Int × (Int × (Int × (Int × (Int × (Int × (Int × Sl)))))))))))) : M ((Int × (Int × (Int × Sl))) × Int) :=
  bnd (newC 24 [.int .i64 x0.1, .int .i64 x0.2.1, .int .i64 x0.2.2.1, .slice x0.2.2.2.a x0.2.2.2.len x0.2.2.2.cap]) fun (p1 : Addr) =>
  bnd (newC 24 [.int .i64 x1.1, .int .i64 x1.2.1, .int .i64 x1.2.2.1, .slice x1.2.2.2.a x1.2.2.2.len x1.2.2.2.cap]) fun (p2 : Addr) =>
  bnd (newC 52 [.int .i64 x2.1, .int .i64 x2.2.1, .int .i64 x2.2.2.1, .int .i64 x2.2.2.2.1, .int .i64 x2.2.2.2.2.1, .int .i64 x2.2.2.2.2.2.1, .int .i64 x2.2.2.2.2.2.2.1, .int .i64 x2.2.2.2.2.2.2.2.1, .int .i64 x2.2.2.2.2.2.2.2.2.1, .int .i64 x2.2.2.2.2.2.2.2.2.2.1, .int .i64 x2.2.2.2.2.2.2.2.2.2.2.1, .slice x2.2.2.2.2.2.2.2.2.2.2.2.a x2.2.2.2.2.2.2.2.2.2.2.2.len x2.2.2.2.2.2.2.2.2.2.2.2.cap]) fun (p3 : Addr) =>
  bnd (newC 24 [.int .i64 (0 : Int), .int .i64 (0 : Int), .int .i64 (0 : Int), .slice none 0 0]) fun (p4 : Addr) =>
  bnd (ld (.agg (.pair (.int .i64) (.pair (.int .i64) (.pair (.int .i64) .sl)))) p1) fun (v5 : (Int × (Int × (Int × Sl)))) =>
  bnd (ld (.agg (.pair (.int .i64) (.pair (.int .i64) (.pair (.int .i64) .sl)))) p2) fun (v6 : (Int × (Int × (Int × Sl)))) =>
  bnd (ld (.agg (.pair (.int .i64) (.pair (.int .i64) (.pair (.int .i64) (.pair (.int .i64) (.pair (.int .i64) (.pair (.int .i64) (.pair (.int .i64) (.pair (.int .i64) (.pair (.int .i64) (.pair (.int .i64) (.pair (.int .i64) .sl)))))))))))) p3) fun (v7 : (Int × (Int × (Int × (Int × (Int × (Int × (Int × (Int × (Int × (Int × (Int × Sl)))))))))))) =>
  bnd (f55_palaverref11_wrong v5 v6 v7) fun (r8 : Int) =>
  cnd (r8 != (0 : Int)) (
  bnd (wrs p4 0 [.int .i64 (0 : Int), .int .i64 (0 : Int), .int .i64 (0 : Int), .slice none 0 0]) fun _ =>
  bnd (ld (.agg (.pair (.int .i64) (.pair (.int .i64) (.pair (.int .i64) .sl)))) p4) fun (v9 : (Int × (Int × (Int × Sl)))) =>
  ret (v9, r8)) (
  bnd (ld (.agg (.pair (.int .i64) (.pair (.int .i64) (.pair (.int .i64) .sl)))) p1) fun (v10 : (Int × (Int × (Int × Sl)))) =>
  bnd (f42_palaverref11_like v10) fun (r11 : (Int × (Int × (Int × Sl)))) =>
  bnd (newC 24 [.int .i64 (0 : Int), .int .i64 (0 : Int), .int .i64 (0 : Int), .slice none 0 0]) fun (p12 : Addr) =>
  bnd (wrs p12 0 [.int .i64 r11.1, .int .i64 r11.2.1, .int .i64 r11.2.2.1, .slice r11.2.2.2.a r11.2.2.2.len r11.2.2.2.cap]) fun _ =>
  loopM (fun (s13 : Int) =>
  bnd (ld (.int .i64) (Addr.add p1 1)) fun (v14 : Int) =>
  cnd (decide (s13 < v14)) (
  loopM (fun (s15 : Int) =>
  bnd (ld (.int .i64) (Addr.add p1 0)) fun (v16 : Int) =>
  cnd (decide (s15 < v16)) (
  bnd (
  bnd (ld (.agg (.pair (.int .i64) (.pair (.int .i64) (.pair (.int .i64) .sl)))) p1) fun (v18 : (Int × (Int × (Int × Sl)))) =>
  bnd (ld (.agg (.pair (.int .i64) (.pair (.int .i64) (.pair (.int .i64) .sl)))) p2) fun (v19 : (Int × (Int × (Int × Sl)))) =>
  bnd (ld (.agg (.pair (.int .i64) (.pair (.int .i64) (.pair (.int .i64) (.pair (.int .i64) (.pair (.int .i64) (.pair (.int .i64) (.pair (.int .i64) (.pair (.int .i64) (.pair (.int .i64) (.pair (.int .i64) (.pair (.int .i64) .sl)))))))))))) p3) fun (v20 : (Int × (Int × (Int × (Int × (Int × (Int × (Int × (Int × (Int × (Int × (Int × Sl)))))))))))) =>
  bnd (f56_palaverref11_left v18 v19 v20 s15 s13) fun (r21 : Bool) =>
  cnd (!r21) (
  ret ()) (
  bnd drawM fun _ =>
  bnd (ld (.agg (.pair (.int .i64) (.pair (.int .i64) (.pair (.int .i64) .sl)))) p2) fun (v22 : (Int × (Int × (Int × Sl)))) =>
  bnd (ld (.int .i64) (Addr.add p3 5)) fun (v23 : Int) =>
  bnd (ld (.int .i64) (Addr.add p3 1)) fun (v24 : Int) =>
  bnd (ld (.int .i64) (Addr.add p3 6)) fun (v25 : Int) =>
  bnd (ld (.int .i64) (Addr.add p3 2)) fun (v26 : Int) =>
  bnd (ld (.agg (.pair (.int .i64) (.pair (.int .i64) (.pair (.int .i64) (.pair (.int .i64) (.pair (.int .i64) (.pair (.int .i64) (.pair (.int .i64) (.pair (.int .i64) (.pair (.int .i64) (.pair (.int .i64) (.pair (.int .i64) .sl)))))))))))) p3) fun (v27 : (Int × (Int × (Int × (Int × (Int × (Int × (Int × (Int × (Int × (Int × (Int × Sl)))))))))))) =>
  bnd (ld (.int .i64) (Addr.add p1 2)) fun (v28 : Int) =>
  bnd (f39_palaverref11_get v22 (IntKind.wrap .i64 ((IntKind.wrap .i64 (v23 + s15)) - v24)) (IntKind.wrap .i64 ((IntKind.wrap .i64 (v25 + s13)) - v26))) fun (r29 : Int) =>
  bnd (
  bnd (chk (.int .i64) (Addr.add p1 2) v28) fun _ =>
  bnd (chk (.agg (.pair (.int .i64) (.pair (.int .i64) (.pair (.int .i64) (.pair (.int .i64) (.pair (.int .i64) (.pair (.int .i64) (.pair (.int .i64) (.pair (.int .i64) (.pair (.int .i64) (.pair (.int .i64) (.pair (.int .i64) .sl)))))))))))) p3 v27) fun _ =>
  ret ()) fun _ =>
  bnd (f58_palaverref11_tone v27 v28 s15 s13) fun (r30 : Int) =>
  bnd (ret ()) fun _ =>
  bnd drawM fun _ =>
  bnd (ld (.int .i64) (Addr.add p3 0)) fun (v31 : Int) =>
  bnd (ld (.agg (.pair (.int .i64) (.pair (.int .i64) (.pair (.int .i64) .sl)))) p1) fun (v32 : (Int × (Int × (Int × Sl)))) =>
  bnd (f39_palaverref11_get v32 s15 s13) fun (r33 : Int) =>
  bnd (
  bnd (chk (.int .i64) (Addr.add p3 0) v31) fun _ =>
  ret ()) fun _ =>
  bnd (f21_palaverref11_Rule v31 (bAnd .u32 r29 r30) r33) fun (r34 : (Int × Int)) =>
  bnd (ret ()) fun _ =>
  bnd drawM fun _ =>
  bnd (ld (.agg (.pair (.int .i64) (.pair (.int .i64) (.pair (.int .i64) .sl)))) p12) fun (v35 : (Int × (Int × (Int × Sl)))) =>
  bnd (ld (.int .i64) (Addr.add p1 2)) fun (v36 : Int) =>
  bnd (f41_palaverref11_all v36) fun (r37 : Int) =>
  bnd (
  bnd (chk (.agg (.pair (.int .i64) (.pair (.int .i64) (.pair (.int .i64) .sl)))) p12 v35) fun _ =>
  ret ()) fun _ =>
  bnd (f43_palaverref11_put v35 s15 s13 (bAnd .u32 r34.1 r37)) fun (r38 : Unit) =>
  bnd (ret ()) fun _ =>
  ret ())) fun (s17 : Unit) =>
  ret (Sum.inl (IntKind.wrap .i64 (s15 + (1 : Int))))) (
  ret (Sum.inr (Sum.inl (IntKind.wrap .i64 (s13 + (1 : Int))))))) (0 : Int)) (
  bnd (
  bnd (ld (.agg (.pair (.int .i64) (.pair (.int .i64) (.pair (.int .i64) .sl)))) p12) fun (v39 : (Int × (Int × (Int × Sl)))) =>
  bnd (wrs p4 0 [.int .i64 v39.1, .int .i64 v39.2.1, .int .i64 v39.2.2.1, .slice v39.2.2.2.a v39.2.2.2.len v39.2.2.2.cap]) fun _ =>
  bnd (ld (.agg (.pair (.int .i64) (.pair (.int .i64) (.pair (.int .i64) .sl)))) p4) fun (v40 : (Int × (Int × (Int × Sl)))) =>
  ret (v40, (0 : Int))) fun r41 =>
  ret (Sum.inr r41))) (0 : Int))
noncomputable def Af29_palaverref11_Copy : Ann := (.two .nil (.two .nil (.two (.two .nil (.two (.two .nil .nil) .nil)) (.two .nil (.two (.two .nil (.one (.loop [(10, (.int .i64))] [11, 12, 13, 14, 15, 26, 27, 28, 29, 30, 31, 32, 33, 34, 35, 36, 37, 38, 39, 40, 41, 42, 43, 44, 45, 46, 47, 48, 49, 50, 51, 52, 53, 54, 55, 56, 57, 58, 59, 60, 61, 62, 63, 64, 65, 66, 67, 68, 69, 70, 71, 72, 73, 74, 75, 76, 77, 78, 79, 80, 81, 82, 83, 84, 85, 86, 87, 88] (.two (.two .nil (.two .nil .nil)) (.two (.one (.two .nil (.one (.loop [(11, (.int .i64))] [12, 13, 14, 15, 32, 33, 34, 35, 36, 37, 38, 39, 40, 41, 42, 43, 44, 45, 46, 47, 48, 49, 50, 51, 52, 53, 54, 55, 56, 57, 58, 59, 60, 61, 62, 63, 64, 65, 66, 67, 68, 69, 70, 71, 72, 73, 74, 75, 76, 77, 78, 79, 80, 81, 82, 83, 84, 85, 86, 87, 88] (.two (.two .nil (.two .nil .nil)) (.two (.join [] [12, 13, 14, 15, 38, 39, 40, 41, 42, 43, 44, 45, 46, 47, 48, 49, 50, 51, 52, 53, 54, 55, 56, 57, 58, 59, 60, 61, 62, 63, 64, 65, 66, 67, 68, 69, 70, 71, 72, 73, 74, 75, 76, 77, 78, 79, 80, 81, 82, 83, 84, 85, 86, 87, 88] false (.one (.two .nil (.two (.two .nil (.two .nil .nil)) (.two (.draw [.o 0, .o 1, .o 2, .o 3, .o 4, .o 5, .o 6, .o 7, .o 8, .o 9, .o 10, .o 11, .o 12, .o 13, .o 14, .o 16, .o 17, .o 18, .o 19, .o 20, .o 15, .o 21, .o 22, .o 23]) (.two (.draw [.o 0, .o 1, .o 2, .o 3, .o 4, .o 5, .o 6, .o 7, .o 8, .o 9, .o 10, .o 11, .o 12]) (.draw [.o 0, .o 1, .o 2, .o 3, .o 4, .o 5, .o 6, .o 7, .o 8]))))))) .nil)))))) .nil))))) (.two .nil .nil))))))
theorem Cf29_palaverref11_Copy_ok : Cf29_palaverref11_Copy.Ok := mkC_ok mixed tysOk zerosOk eqsOk ⟨Sf21_palaverref11_Rule, Sf39_palaverref11_get, Sf41_palaverref11_all, Sf42_palaverref11_like, Sf43_palaverref11_put, Sf55_palaverref11_wrong, Sf56_palaverref11_left, Sf58_palaverref11_tone, trivial⟩ trivial
theorem Ef29_palaverref11_Copy (x : ((Int × (Int × (Int × Sl))) × ((Int × (Int × (Int × Sl))) × (Int × (Int × (Int × (Int × (Int × (Int × (Int × (Int × (Int × (Int × (Int × Sl)))))))))))))) : evF Cf29_palaverref11_Copy Try.f29 90 (.pair (.agg (.pair (.int .i64) (.pair (.int .i64) (.pair (.int .i64) .sl)))) (.pair (.agg (.pair (.int .i64) (.pair (.int .i64) (.pair (.int .i64) .sl)))) (.agg (.pair (.int .i64) (.pair (.int .i64) (.pair (.int .i64) (.pair (.int .i64) (.pair (.int .i64) (.pair (.int .i64) (.pair (.int .i64) (.pair (.int .i64) (.pair (.int .i64) (.pair (.int .i64) (.pair (.int .i64) .sl)))))))))))))) (.tup (.pair (.agg (.pair (.int .i64) (.pair (.int .i64) (.pair (.int .i64) .sl)))) (.int .i64))) Af29_palaverref11_Copy x = f29_palaverref11_Copy x.1 x.2.1 x.2.2 := by kernel_rfl
theorem Sf29_palaverref11_Copy : SoundF Try.prog 29 ⟨(.pair (.agg (.pair (.int .i64) (.pair (.int .i64) (.pair (.int .i64) .sl)))) (.pair (.agg (.pair (.int .i64) (.pair (.int .i64) (.pair (.int .i64) .sl)))) (.agg (.pair (.int .i64) (.pair (.int .i64) (.pair (.int .i64) (.pair (.int .i64) (.pair (.int .i64) (.pair (.int .i64) (.pair (.int .i64) (.pair (.int .i64) (.pair (.int .i64) (.pair (.int .i64) (.pair (.int .i64) .sl)))))))))))))), (.tup (.pair (.agg (.pair (.int .i64) (.pair (.int .i64) (.pair (.int .i64) .sl)))) (.int .i64))), fun x => f29_palaverref11_Copy x.1 x.2.1 x.2.2⟩ :=
  soundF_of Cf29_palaverref11_Copy_ok Try.func29 (by kernel_rfl) (by kernel_rfl) Ef29_palaverref11_Copy
noncomputable def Cf32_palaverref11_Fill : Ctx := mkC Try.prog tys zeros eqs [(15, ⟨(.agg (.pair (.int .i64) (.pair (.int .i64) (.pair (.int .i64) .sl)))), (.int .i64), fun x => f15_palaverref11_Check x⟩), (29, ⟨(.pair (.agg (.pair (.int .i64) (.pair (.int .i64) (.pair (.int .i64) .sl)))) (.pair (.agg (.pair (.int .i64) (.pair (.int .i64) (.pair (.int .i64) .sl)))) (.agg (.pair (.int .i64) (.pair (.int .i64) (.pair (.int .i64) (.pair (.int .i64) (.pair (.int .i64) (.pair (.int .i64) (.pair (.int .i64) (.pair (.int .i64) (.pair (.int .i64) (.pair (.int .i64) (.pair (.int .i64) .sl)))))))))))))), (.tup (.pair (.agg (.pair (.int .i64) (.pair (.int .i64) (.pair (.int .i64) .sl)))) (.int .i64))), fun x => f29_palaverref11_Copy x.1 x.2.1 x.2.2⟩), (42, ⟨(.agg (.pair (.int .i64) (.pair (.int .i64) (.pair (.int .i64) .sl)))), (.agg (.pair (.int .i64) (.pair (.int .i64) (.pair (.int .i64) .sl)))), fun x => f42_palaverref11_like x⟩), (59, ⟨(.pair (.agg (.pair (.int .i64) (.pair (.int .i64) (.pair (.int .i64) (.pair (.int .i64) (.pair (.int .i64) (.pair (.int .i64) (.pair (.int .i64) (.pair (.int .i64) (.pair (.int .i64) (.pair (.int .i64) (.pair (.int .i64) .sl)))))))))))) .bool), .bool, fun x => f59_palaverref11_bounds x.1 x.2⟩)] []
/-- palaverpalaverref11.Fill -/
noncomputable def f32_palaverref11_Fill (x0 : (Int × (Int × (Int × Sl)))) (x1 : (Int × (Int × (Int × (Int × (Int × (Int × (Int × (Int × (Int × (Int × (Int × Sl)))))))))))) : M ((Int × (Int × (Int × Sl))) × Int) :=
  bnd (newC 24 [.int .i64 x0.1, .int .i64 x0.2.1, .int .i64 x0.2.2.1, .slice x0.2.2.2.a x0.2.2.2.len x0.2.2.2.cap]) fun (p1 : Addr) =>
  bnd (newC 52 [.int .i64 x1.1, .int .i64 x1.2.1, .int .i64 x1.2.2.1, .int .i64 x1.2.2.2.1, .int .i64 x1.2.2.2.2.1, .int .i64 x1.2.2.2.2.2.1, .int .i64 x1.2.2.2.2.2.2.1, .int .i64 x1.2.2.2.2.2.2.2.1, .int .i64 x1.2.2.2.2.2.2.2.2.1, .int .i64 x1.2.2.2.2.2.2.2.2.2.1, .int .i64 x1.2.2.2.2.2.2.2.2.2.2.1, .slice x1.2.2.2.2.2.2.2.2.2.2.2.a x1.2.2.2.2.2.2.2.2.2.2.2.len x1.2.2.2.2.2.2.2.2.2.2.2.cap]) fun (p2 : Addr) =>
  bnd (newC 24 [.int .i64 (0 : Int), .int .i64 (0 : Int), .int .i64 (0 : Int), .slice none 0 0]) fun (p3 : Addr) =>
  bnd (ld (.agg (.pair (.int .i64) (.pair (.int .i64) (.pair (.int .i64) .sl)))) p1) fun (v4 : (Int × (Int × (Int × Sl)))) =>
  bnd (f15_palaverref11_Check v4) fun (r5 : Int) =>
  cnd (r5 != (0 : Int)) (
  bnd (wrs p3 0 [.int .i64 (0 : Int), .int .i64 (0 : Int), .int .i64 (0 : Int), .slice none 0 0]) fun _ =>
  bnd (ld (.agg (.pair (.int .i64) (.pair (.int .i64) (.pair (.int .i64) .sl)))) p3) fun (v6 : (Int × (Int × (Int × Sl)))) =>
  ret (v6, r5)) (
  bnd (ld (.int .i64) (Addr.add p2 0)) fun (v7 : Int) =>
  bnd (
  cnd (decide (v7 < (0 : Int))) (
  ret true) (
  bnd (ld (.int .i64) (Addr.add p2 0)) fun (v8 : Int) =>
  ret (decide (v8 > (15 : Int))))) fun (b9 : Bool) =>
  cnd b9 (
  bnd (wrs p3 0 [.int .i64 (0 : Int), .int .i64 (0 : Int), .int .i64 (0 : Int), .slice none 0 0]) fun _ =>
  bnd (ld (.agg (.pair (.int .i64) (.pair (.int .i64) (.pair (.int .i64) .sl)))) p3) fun (v10 : (Int × (Int × (Int × Sl)))) =>
  ret (v10, (111 : Int))) (
  bnd (ld (.agg (.pair (.int .i64) (.pair (.int .i64) (.pair (.int .i64) (.pair (.int .i64) (.pair (.int .i64) (.pair (.int .i64) (.pair (.int .i64) (.pair (.int .i64) (.pair (.int .i64) (.pair (.int .i64) (.pair (.int .i64) .sl)))))))))))) p2) fun (v11 : (Int × (Int × (Int × (Int × (Int × (Int × (Int × (Int × (Int × (Int × (Int × Sl)))))))))))) =>
  bnd (f59_palaverref11_bounds v11 false) fun (r12 : Bool) =>
  cnd (!r12) (
  bnd (wrs p3 0 [.int .i64 (0 : Int), .int .i64 (0 : Int), .int .i64 (0 : Int), .slice none 0 0]) fun _ =>
  bnd (ld (.agg (.pair (.int .i64) (.pair (.int .i64) (.pair (.int .i64) .sl)))) p3) fun (v13 : (Int × (Int × (Int × Sl)))) =>
  ret (v13, (1 : Int))) (
  bnd (ld (.agg (.pair (.int .i64) (.pair (.int .i64) (.pair (.int .i64) .sl)))) p1) fun (v14 : (Int × (Int × (Int × Sl)))) =>
  bnd (f42_palaverref11_like v14) fun (r15 : (Int × (Int × (Int × Sl)))) =>
  bnd (newC 24 [.int .i64 (0 : Int), .int .i64 (0 : Int), .int .i64 (0 : Int), .slice none 0 0]) fun (p16 : Addr) =>
  bnd (wrs p16 0 [.int .i64 r15.1, .int .i64 r15.2.1, .int .i64 r15.2.2.1, .slice r15.2.2.2.a r15.2.2.2.len r15.2.2.2.cap]) fun _ =>
  loopM (fun (s17 : Int) =>
  bnd (ld .sl (Addr.add p16 3)) fun (v18 : Sl) =>
  cnd (decide (s17 < (v18.len : Int))) (
  bnd (ld .sl (Addr.add p16 3)) fun (v19 : Sl) =>
  bnd (ix 1 v19 s17) fun (p20 : Addr) =>
  bnd (wrs p20 0 [.int .u32 (4294967295 : Int)]) fun _ =>
  ret (Sum.inl (IntKind.wrap .i64 (s17 + (1 : Int))))) (
  bnd (
  bnd (ld (.int .i64) (Addr.add p2 1)) fun (v21 : Int) =>
  bnd (wrs (Addr.add p2 5) 0 [.int .i64 v21]) fun _ =>
  bnd (ld (.int .i64) (Addr.add p2 2)) fun (v22 : Int) =>
  bnd (wrs (Addr.add p2 6) 0 [.int .i64 v22]) fun _ =>
  bnd (ld (.agg (.pair (.int .i64) (.pair (.int .i64) (.pair (.int .i64) .sl)))) p1) fun (v23 : (Int × (Int × (Int × Sl)))) =>
  bnd (ld (.agg (.pair (.int .i64) (.pair (.int .i64) (.pair (.int .i64) .sl)))) p16) fun (v24 : (Int × (Int × (Int × Sl)))) =>
  bnd (ld (.agg (.pair (.int .i64) (.pair (.int .i64) (.pair (.int .i64) (.pair (.int .i64) (.pair (.int .i64) (.pair (.int .i64) (.pair (.int .i64) (.pair (.int .i64) (.pair (.int .i64) (.pair (.int .i64) (.pair (.int .i64) .sl)))))))))))) p2) fun (v25 : (Int × (Int × (Int × (Int × (Int × (Int × (Int × (Int × (Int × (Int × (Int × Sl)))))))))))) =>
  bnd (f29_palaverref11_Copy v23 v24 v25) fun (r26 : ((Int × (Int × (Int × Sl))) × Int)) =>
  bnd (wrs p3 0 [.int .i64 r26.1.1, .int .i64 r26.1.2.1, .int .i64 r26.1.2.2.1, .slice r26.1.2.2.2.a r26.1.2.2.2.len r26.1.2.2.2.cap]) fun _ =>
  bnd (ld (.agg (.pair (.int .i64) (.pair (.int .i64) (.pair (.int .i64) .sl)))) p3) fun (v27 : (Int × (Int × (Int × Sl)))) =>
  ret (v27, r26.2)) fun r28 =>
  ret (Sum.inr r28))) (0 : Int))))
noncomputable def Af32_palaverref11_Fill : Ann := (.two .nil (.two .nil (.two (.two .nil (.two (.two .nil .nil) .nil)) (.two (.two .nil (.two (.two .nil .nil) .nil)) (.two .nil (.two (.two .nil (.two (.two .nil .nil) .nil)) (.two .nil (.two (.two .nil (.one (.loop [(9, (.int .i64))] [32, 33, 34, 35, 36, 37, 38, 39, 40, 41, 42] (.two (.two .nil (.two .nil .nil)) (.two (.one .nil) .nil))))) (.two .nil (.two .nil (.two .nil .nil)))))))))))
theorem Cf32_palaverref11_Fill_ok : Cf32_palaverref11_Fill.Ok := mkC_ok mixed tysOk zerosOk eqsOk ⟨Sf15_palaverref11_Check, Sf29_palaverref11_Copy, Sf42_palaverref11_like, Sf59_palaverref11_bounds, trivial⟩ trivial
theorem Ef32_palaverref11_Fill (x : ((Int × (Int × (Int × Sl))) × (Int × (Int × (Int × (Int × (Int × (Int × (Int × (Int × (Int × (Int × (Int × Sl))))))))))))) : evF Cf32_palaverref11_Fill Try.f32 55 (.pair (.agg (.pair (.int .i64) (.pair (.int .i64) (.pair (.int .i64) .sl)))) (.agg (.pair (.int .i64) (.pair (.int .i64) (.pair (.int .i64) (.pair (.int .i64) (.pair (.int .i64) (.pair (.int .i64) (.pair (.int .i64) (.pair (.int .i64) (.pair (.int .i64) (.pair (.int .i64) (.pair (.int .i64) .sl))))))))))))) (.tup (.pair (.agg (.pair (.int .i64) (.pair (.int .i64) (.pair (.int .i64) .sl)))) (.int .i64))) Af32_palaverref11_Fill x = f32_palaverref11_Fill x.1 x.2 := by kernel_rfl
theorem Sf32_palaverref11_Fill : SoundF Try.prog 32 ⟨(.pair (.agg (.pair (.int .i64) (.pair (.int .i64) (.pair (.int .i64) .sl)))) (.agg (.pair (.int .i64) (.pair (.int .i64) (.pair (.int .i64) (.pair (.int .i64) (.pair (.int .i64) (.pair (.int .i64) (.pair (.int .i64) (.pair (.int .i64) (.pair (.int .i64) (.pair (.int .i64) (.pair (.int .i64) .sl))))))))))))), (.tup (.pair (.agg (.pair (.int .i64) (.pair (.int .i64) (.pair (.int .i64) .sl)))) (.int .i64))), fun x => f32_palaverref11_Fill x.1 x.2⟩ :=
  soundF_of Cf32_palaverref11_Fill_ok Try.func32 (by kernel_rfl) (by kernel_rfl) Ef32_palaverref11_Fill
noncomputable def Cf4_palaverlaw11_BitCopies : Ctx := mkC Try.prog tys zeros eqs [(8, ⟨.unit, .bool, fun _ => f8_palaverlaw11_works⟩), (9, ⟨(.pair (.agg (.pair (.int .i64) (.pair (.int .i64) (.pair (.int .i64) .sl)))) (.agg (.pair (.int .i64) (.pair (.int .i64) (.pair (.int .i64) .sl))))), .bool, fun x => f9_palaverlaw11_far x.1 x.2⟩), (12, ⟨(.pair (.agg (.pair (.int .i64) (.pair (.int .i64) (.pair (.int .i64) .sl)))) (.agg (.pair (.int .i64) (.pair (.int .i64) (.pair (.int .i64) .sl))))), .bool, fun x => f12_palaverlaw11_same x.1 x.2⟩), (13, ⟨.sl, .sl, fun x => f13_palaverref00_LentBits x⟩), (22, ⟨(.pair .sl .sl), .bool, fun x => f22_palaverref00_WholeBits x.1 x.2⟩), (23, ⟨(.pair .ptr .sl), (.tup .unit), fun x => f23_palaverref00_Book_Bits x.1 x.2⟩), (24, ⟨.ptr, .bool, fun x => f24_palaverref00_Book_Own x⟩), (25, ⟨(.pair (.agg (.pair (.int .i64) (.pair (.int .i64) (.pair (.int .i64) .sl)))) (.pair (.agg (.pair (.int .i64) (.pair (.int .i64) (.pair (.int .i64) .sl)))) (.agg (.pair (.int .i64) (.pair (.int .i64) (.pair (.int .i64) (.pair (.int .i64) (.pair (.int .i64) (.pair (.int .i64) (.pair (.int .i64) (.pair (.int .i64) (.pair (.int .i64) (.pair (.int .i64) (.pair (.int .i64) .sl)))))))))))))), (.tup (.pair (.agg (.pair (.int .i64) (.pair (.int .i64) (.pair (.int .i64) (.pair (.int .i64) (.pair (.int .i64) (.pair (.int .i64) (.pair (.int .i64) (.pair (.int .i64) (.pair (.int .i64) (.pair (.int .i64) (.pair (.int .i64) .sl)))))))))))) (.int .i64))), fun x => f25_bitblt_Clip x.1 x.2.1 x.2.2⟩), (26, ⟨(.pair (.agg (.pair (.int .i64) (.pair (.int .i64) (.pair (.int .i64) .sl)))) (.pair (.agg (.pair (.int .i64) (.pair (.int .i64) (.pair (.int .i64) .sl)))) (.agg (.pair (.int .i64) (.pair (.int .i64) (.pair (.int .i64) (.pair (.int .i64) (.pair (.int .i64) (.pair (.int .i64) (.pair (.int .i64) (.pair (.int .i64) (.pair (.int .i64) (.pair (.int .i64) (.pair (.int .i64) .sl)))))))))))))), (.tup (.pair (.agg (.pair (.int .i64) (.pair (.int .i64) (.pair (.int .i64) (.pair (.int .i64) (.pair (.int .i64) (.pair (.int .i64) (.pair (.int .i64) (.pair (.int .i64) (.pair (.int .i64) (.pair (.int .i64) (.pair (.int .i64) .sl)))))))))))) (.int .i64))), fun x => f26_palaverref11_Clip x.1 x.2.1 x.2.2⟩), (27, ⟨(.pair .sl .sl), .bool, fun x => f27_palaverref00_SameBits x.1 x.2⟩), (28, ⟨(.pair (.agg (.pair (.int .i64) (.pair (.int .i64) (.pair (.int .i64) .sl)))) (.pair (.agg (.pair (.int .i64) (.pair (.int .i64) (.pair (.int .i64) .sl)))) (.agg (.pair (.int .i64) (.pair (.int .i64) (.pair (.int .i64) (.pair (.int .i64) (.pair (.int .i64) (.pair (.int .i64) (.pair (.int .i64) (.pair (.int .i64) (.pair (.int .i64) (.pair (.int .i64) (.pair (.int .i64) .sl)))))))))))))), (.tup (.pair (.agg (.pair (.int .i64) (.pair (.int .i64) (.pair (.int .i64) .sl)))) (.int .i64))), fun x => f28_bitblt_Copy x.1 x.2.1 x.2.2⟩), (29, ⟨(.pair (.agg (.pair (.int .i64) (.pair (.int .i64) (.pair (.int .i64) .sl)))) (.pair (.agg (.pair (.int .i64) (.pair (.int .i64) (.pair (.int .i64) .sl)))) (.agg (.pair (.int .i64) (.pair (.int .i64) (.pair (.int .i64) (.pair (.int .i64) (.pair (.int .i64) (.pair (.int .i64) (.pair (.int .i64) (.pair (.int .i64) (.pair (.int .i64) (.pair (.int .i64) (.pair (.int .i64) .sl)))))))))))))), (.tup (.pair (.agg (.pair (.int .i64) (.pair (.int .i64) (.pair (.int .i64) .sl)))) (.int .i64))), fun x => f29_palaverref11_Copy x.1 x.2.1 x.2.2⟩), (30, ⟨(.pair (.agg (.pair (.int .i64) (.pair (.int .i64) (.pair (.int .i64) .sl)))) (.agg (.pair (.int .i64) (.pair (.int .i64) (.pair (.int .i64) (.pair (.int .i64) (.pair (.int .i64) (.pair (.int .i64) (.pair (.int .i64) (.pair (.int .i64) (.pair (.int .i64) (.pair (.int .i64) (.pair (.int .i64) .sl))))))))))))), (.tup (.pair (.agg (.pair (.int .i64) (.pair (.int .i64) (.pair (.int .i64) .sl)))) (.int .i64))), fun x => f30_bitblt_Move x.1 x.2⟩), (31, ⟨(.pair (.agg (.pair (.int .i64) (.pair (.int .i64) (.pair (.int .i64) .sl)))) (.agg (.pair (.int .i64) (.pair (.int .i64) (.pair (.int .i64) (.pair (.int .i64) (.pair (.int .i64) (.pair (.int .i64) (.pair (.int .i64) (.pair (.int .i64) (.pair (.int .i64) (.pair (.int .i64) (.pair (.int .i64) .sl))))))))))))), (.tup (.pair (.agg (.pair (.int .i64) (.pair (.int .i64) (.pair (.int .i64) .sl)))) (.int .i64))), fun x => f31_bitblt_Fill x.1 x.2⟩), (32, ⟨(.pair (.agg (.pair (.int .i64) (.pair (.int .i64) (.pair (.int .i64) .sl)))) (.agg (.pair (.int .i64) (.pair (.int .i64) (.pair (.int .i64) (.pair (.int .i64) (.pair (.int .i64) (.pair (.int .i64) (.pair (.int .i64) (.pair (.int .i64) (.pair (.int .i64) (.pair (.int .i64) (.pair (.int .i64) .sl))))))))))))), (.tup (.pair (.agg (.pair (.int .i64) (.pair (.int .i64) (.pair (.int .i64) .sl)))) (.int .i64))), fun x => f32_palaverref11_Fill x.1 x.2⟩)] []
/-- palaverpalaverlaw11.BitCopies -/
noncomputable def f4_palaverlaw11_BitCopies (x0 : (Int × (Int × (Int × Sl)))) (x1 : (Int × (Int × (Int × Sl)))) (x2 : (Int × (Int × (Int × (Int × (Int × (Int × (Int × (Int × (Int × (Int × (Int × Sl)))))))))))) : M Bool :=
  bnd (newC 24 [.int .i64 x0.1, .int .i64 x0.2.1, .int .i64 x0.2.2.1, .slice x0.2.2.2.a x0.2.2.2.len x0.2.2.2.cap]) fun (p1 : Addr) =>
  bnd (newC 24 [.int .i64 x1.1, .int .i64 x1.2.1, .int .i64 x1.2.2.1, .slice x1.2.2.2.a x1.2.2.2.len x1.2.2.2.cap]) fun (p2 : Addr) =>
  bnd (newC 52 [.int .i64 x2.1, .int .i64 x2.2.1, .int .i64 x2.2.2.1, .int .i64 x2.2.2.2.1, .int .i64 x2.2.2.2.2.1, .int .i64 x2.2.2.2.2.2.1, .int .i64 x2.2.2.2.2.2.2.1, .int .i64 x2.2.2.2.2.2.2.2.1, .int .i64 x2.2.2.2.2.2.2.2.2.1, .int .i64 x2.2.2.2.2.2.2.2.2.2.1, .int .i64 x2.2.2.2.2.2.2.2.2.2.2.1, .slice x2.2.2.2.2.2.2.2.2.2.2.2.a x2.2.2.2.2.2.2.2.2.2.2.2.len x2.2.2.2.2.2.2.2.2.2.2.2.cap]) fun (p3 : Addr) =>
  bnd f8_palaverlaw11_works fun (r4 : Bool) =>
  bnd (ld (.agg (.pair (.int .i64) (.pair (.int .i64) (.pair (.int .i64) .sl)))) p1) fun (v5 : (Int × (Int × (Int × Sl)))) =>
  bnd (ld (.agg (.pair (.int .i64) (.pair (.int .i64) (.pair (.int .i64) .sl)))) p2) fun (v6 : (Int × (Int × (Int × Sl)))) =>
  bnd (f9_palaverlaw11_far v5 v6) fun (r7 : Bool) =>
  bnd (
  cnd r7 (
  ret true) (
  bnd (ld .sl (Addr.add p3 11)) fun (v8 : Sl) =>
  ret (decide ((v8.len : Int) > (1048576 : Int))))) fun (b9 : Bool) =>
  cnd b9 (
  ret r4) (
  bnd (ld (.agg (.pair (.int .i64) (.pair (.int .i64) (.pair (.int .i64) .sl)))) p1) fun (v10 : (Int × (Int × (Int × Sl)))) =>
  bnd (newC 24 [.int .i64 (0 : Int), .int .i64 (0 : Int), .int .i64 (0 : Int), .slice none 0 0]) fun (p11 : Addr) =>
  bnd (wrs p11 0 [.int .i64 v10.1, .int .i64 v10.2.1, .int .i64 v10.2.2.1, .slice v10.2.2.2.a v10.2.2.2.len v10.2.2.2.cap]) fun _ =>
  bnd (ld .sl (Addr.add p1 3)) fun (v12 : Sl) =>
  bnd (f13_palaverref00_LentBits v12) fun (r13 : Sl) =>
  bnd (wrs (Addr.add p11 3) 0 [.slice r13.a r13.len r13.cap]) fun _ =>
  bnd (ld (.agg (.pair (.int .i64) (.pair (.int .i64) (.pair (.int .i64) .sl)))) p2) fun (v14 : (Int × (Int × (Int × Sl)))) =>
  bnd (newC 24 [.int .i64 (0 : Int), .int .i64 (0 : Int), .int .i64 (0 : Int), .slice none 0 0]) fun (p15 : Addr) =>
  bnd (wrs p15 0 [.int .i64 v14.1, .int .i64 v14.2.1, .int .i64 v14.2.2.1, .slice v14.2.2.2.a v14.2.2.2.len v14.2.2.2.cap]) fun _ =>
  bnd (ld .sl (Addr.add p2 3)) fun (v16 : Sl) =>
  bnd (f13_palaverref00_LentBits v16) fun (r17 : Sl) =>
  bnd (wrs (Addr.add p15 3) 0 [.slice r17.a r17.len r17.cap]) fun _ =>
  bnd (ld (.agg (.pair (.int .i64) (.pair (.int .i64) (.pair (.int .i64) (.pair (.int .i64) (.pair (.int .i64) (.pair (.int .i64) (.pair (.int .i64) (.pair (.int .i64) (.pair (.int .i64) (.pair (.int .i64) (.pair (.int .i64) .sl)))))))))))) p3) fun (v18 : (Int × (Int × (Int × (Int × (Int × (Int × (Int × (Int × (Int × (Int × (Int × Sl)))))))))))) =>
  bnd (newC 52 [.int .i64 (0 : Int), .int .i64 (0 : Int), .int .i64 (0 : Int), .int .i64 (0 : Int), .int .i64 (0 : Int), .int .i64 (0 : Int), .int .i64 (0 : Int), .int .i64 (0 : Int), .int .i64 (0 : Int), .int .i64 (0 : Int), .int .i64 (0 : Int), .slice none 0 0]) fun (p19 : Addr) =>
  bnd (wrs p19 0 [.int .i64 v18.1, .int .i64 v18.2.1, .int .i64 v18.2.2.1, .int .i64 v18.2.2.2.1, .int .i64 v18.2.2.2.2.1, .int .i64 v18.2.2.2.2.2.1, .int .i64 v18.2.2.2.2.2.2.1, .int .i64 v18.2.2.2.2.2.2.2.1, .int .i64 v18.2.2.2.2.2.2.2.2.1, .int .i64 v18.2.2.2.2.2.2.2.2.2.1, .int .i64 v18.2.2.2.2.2.2.2.2.2.2.1, .slice v18.2.2.2.2.2.2.2.2.2.2.2.a v18.2.2.2.2.2.2.2.2.2.2.2.len v18.2.2.2.2.2.2.2.2.2.2.2.cap]) fun _ =>
  bnd (ld .sl (Addr.add p3 11)) fun (v20 : Sl) =>
  bnd (f13_palaverref00_LentBits v20) fun (r21 : Sl) =>
  bnd (wrs (Addr.add p19 11) 0 [.slice r21.a r21.len r21.cap]) fun _ =>
  bnd (ld (.agg (.pair (.int .i64) (.pair (.int .i64) (.pair (.int .i64) .sl)))) p11) fun (v22 : (Int × (Int × (Int × Sl)))) =>
  bnd (ld (.agg (.pair (.int .i64) (.pair (.int .i64) (.pair (.int .i64) .sl)))) p15) fun (v23 : (Int × (Int × (Int × Sl)))) =>
  bnd (ld (.agg (.pair (.int .i64) (.pair (.int .i64) (.pair (.int .i64) (.pair (.int .i64) (.pair (.int .i64) (.pair (.int .i64) (.pair (.int .i64) (.pair (.int .i64) (.pair (.int .i64) (.pair (.int .i64) (.pair (.int .i64) .sl)))))))))))) p19) fun (v24 : (Int × (Int × (Int × (Int × (Int × (Int × (Int × (Int × (Int × (Int × (Int × Sl)))))))))))) =>
  bnd (f25_bitblt_Clip v22 v23 v24) fun (r25 : ((Int × (Int × (Int × (Int × (Int × (Int × (Int × (Int × (Int × (Int × (Int × Sl))))))))))) × Int)) =>
  bnd (newC 52 [.int .i64 (0 : Int), .int .i64 (0 : Int), .int .i64 (0 : Int), .int .i64 (0 : Int), .int .i64 (0 : Int), .int .i64 (0 : Int), .int .i64 (0 : Int), .int .i64 (0 : Int), .int .i64 (0 : Int), .int .i64 (0 : Int), .int .i64 (0 : Int), .slice none 0 0]) fun (p26 : Addr) =>
  bnd (wrs p26 0 [.int .i64 r25.1.1, .int .i64 r25.1.2.1, .int .i64 r25.1.2.2.1, .int .i64 r25.1.2.2.2.1, .int .i64 r25.1.2.2.2.2.1, .int .i64 r25.1.2.2.2.2.2.1, .int .i64 r25.1.2.2.2.2.2.2.1, .int .i64 r25.1.2.2.2.2.2.2.2.1, .int .i64 r25.1.2.2.2.2.2.2.2.2.1, .int .i64 r25.1.2.2.2.2.2.2.2.2.2.1, .int .i64 r25.1.2.2.2.2.2.2.2.2.2.2.1, .slice r25.1.2.2.2.2.2.2.2.2.2.2.2.a r25.1.2.2.2.2.2.2.2.2.2.2.2.len r25.1.2.2.2.2.2.2.2.2.2.2.2.cap]) fun _ =>
  bnd (ld (.agg (.pair (.int .i64) (.pair (.int .i64) (.pair (.int .i64) .sl)))) p1) fun (v27 : (Int × (Int × (Int × Sl)))) =>
  bnd (ld (.agg (.pair (.int .i64) (.pair (.int .i64) (.pair (.int .i64) .sl)))) p2) fun (v28 : (Int × (Int × (Int × Sl)))) =>
  bnd (ld (.agg (.pair (.int .i64) (.pair (.int .i64) (.pair (.int .i64) (.pair (.int .i64) (.pair (.int .i64) (.pair (.int .i64) (.pair (.int .i64) (.pair (.int .i64) (.pair (.int .i64) (.pair (.int .i64) (.pair (.int .i64) .sl)))))))))))) p3) fun (v29 : (Int × (Int × (Int × (Int × (Int × (Int × (Int × (Int × (Int × (Int × (Int × Sl)))))))))))) =>
  bnd (f26_palaverref11_Clip v27 v28 v29) fun (r30 : ((Int × (Int × (Int × (Int × (Int × (Int × (Int × (Int × (Int × (Int × (Int × Sl))))))))))) × Int)) =>
  bnd (newC 52 [.int .i64 (0 : Int), .int .i64 (0 : Int), .int .i64 (0 : Int), .int .i64 (0 : Int), .int .i64 (0 : Int), .int .i64 (0 : Int), .int .i64 (0 : Int), .int .i64 (0 : Int), .int .i64 (0 : Int), .int .i64 (0 : Int), .int .i64 (0 : Int), .slice none 0 0]) fun (p31 : Addr) =>
  bnd (wrs p31 0 [.int .i64 r30.1.1, .int .i64 r30.1.2.1, .int .i64 r30.1.2.2.1, .int .i64 r30.1.2.2.2.1, .int .i64 r30.1.2.2.2.2.1, .int .i64 r30.1.2.2.2.2.2.1, .int .i64 r30.1.2.2.2.2.2.2.1, .int .i64 r30.1.2.2.2.2.2.2.2.1, .int .i64 r30.1.2.2.2.2.2.2.2.2.1, .int .i64 r30.1.2.2.2.2.2.2.2.2.2.1, .int .i64 r30.1.2.2.2.2.2.2.2.2.2.2.1, .slice r30.1.2.2.2.2.2.2.2.2.2.2.2.a r30.1.2.2.2.2.2.2.2.2.2.2.2.len r30.1.2.2.2.2.2.2.2.2.2.2.2.cap]) fun _ =>
  bnd (ld .sl (Addr.add p26 11)) fun (v32 : Sl) =>
  bnd (ld .sl (Addr.add p31 11)) fun (v33 : Sl) =>
  bnd (f27_palaverref00_SameBits v32 v33) fun (r34 : Bool) =>
  bnd (
  cnd (cond r34 (r25.2 == r30.2) false) (
  bnd (ld (.int .i64) (Addr.add p26 0)) fun (v35 : Int) =>
  bnd (ld (.int .i64) (Addr.add p31 0)) fun (v36 : Int) =>
  ret (v35 == v36)) (
  ret false)) fun (b37 : Bool) =>
  bnd (
  cnd b37 (
  bnd (ld (.int .i64) (Addr.add p26 1)) fun (v38 : Int) =>
  bnd (ld (.int .i64) (Addr.add p31 1)) fun (v39 : Int) =>
  ret (v38 == v39)) (
  ret false)) fun (b40 : Bool) =>
  bnd (
  cnd b40 (
  bnd (ld (.int .i64) (Addr.add p26 2)) fun (v41 : Int) =>
  bnd (ld (.int .i64) (Addr.add p31 2)) fun (v42 : Int) =>
  ret (v41 == v42)) (
  ret false)) fun (b43 : Bool) =>
  bnd (
  cnd b43 (
  bnd (ld (.int .i64) (Addr.add p26 3)) fun (v44 : Int) =>
  bnd (ld (.int .i64) (Addr.add p31 3)) fun (v45 : Int) =>
  ret (v44 == v45)) (
  ret false)) fun (b46 : Bool) =>
  bnd (
  cnd b46 (
  bnd (ld (.int .i64) (Addr.add p26 4)) fun (v47 : Int) =>
  bnd (ld (.int .i64) (Addr.add p31 4)) fun (v48 : Int) =>
  ret (v47 == v48)) (
  ret false)) fun (b49 : Bool) =>
  bnd (
  cnd b49 (
  bnd (ld (.int .i64) (Addr.add p26 5)) fun (v50 : Int) =>
  bnd (ld (.int .i64) (Addr.add p31 5)) fun (v51 : Int) =>
  ret (v50 == v51)) (
  ret false)) fun (b52 : Bool) =>
  bnd (
  cnd b52 (
  bnd (ld (.int .i64) (Addr.add p26 6)) fun (v53 : Int) =>
  bnd (ld (.int .i64) (Addr.add p31 6)) fun (v54 : Int) =>
  ret (v53 == v54)) (
  ret false)) fun (b55 : Bool) =>
  bnd (
  cnd b55 (
  bnd (ld (.int .i64) (Addr.add p26 7)) fun (v56 : Int) =>
  bnd (ld (.int .i64) (Addr.add p31 7)) fun (v57 : Int) =>
  ret (v56 == v57)) (
  ret false)) fun (b58 : Bool) =>
  bnd (
  cnd b58 (
  bnd (ld (.int .i64) (Addr.add p26 8)) fun (v59 : Int) =>
  bnd (ld (.int .i64) (Addr.add p31 8)) fun (v60 : Int) =>
  ret (v59 == v60)) (
  ret false)) fun (b61 : Bool) =>
  bnd (
  cnd b61 (
  bnd (ld (.int .i64) (Addr.add p26 9)) fun (v62 : Int) =>
  bnd (ld (.int .i64) (Addr.add p31 9)) fun (v63 : Int) =>
  ret (v62 == v63)) (
  ret false)) fun (b64 : Bool) =>
  bnd (
  cnd b64 (
  bnd (ld (.int .i64) (Addr.add p26 10)) fun (v65 : Int) =>
  bnd (ld (.int .i64) (Addr.add p31 10)) fun (v66 : Int) =>
  ret (v65 == v66)) (
  ret false)) fun (b67 : Bool) =>
  bnd (ld (.agg (.pair (.int .i64) (.pair (.int .i64) (.pair (.int .i64) .sl)))) p11) fun (v68 : (Int × (Int × (Int × Sl)))) =>
  bnd (ld (.agg (.pair (.int .i64) (.pair (.int .i64) (.pair (.int .i64) .sl)))) p15) fun (v69 : (Int × (Int × (Int × Sl)))) =>
  bnd (ld (.agg (.pair (.int .i64) (.pair (.int .i64) (.pair (.int .i64) (.pair (.int .i64) (.pair (.int .i64) (.pair (.int .i64) (.pair (.int .i64) (.pair (.int .i64) (.pair (.int .i64) (.pair (.int .i64) (.pair (.int .i64) .sl)))))))))))) p19) fun (v70 : (Int × (Int × (Int × (Int × (Int × (Int × (Int × (Int × (Int × (Int × (Int × Sl)))))))))))) =>
  bnd (f28_bitblt_Copy v68 v69 v70) fun (r71 : ((Int × (Int × (Int × Sl))) × Int)) =>
  bnd (newC 24 [.int .i64 (0 : Int), .int .i64 (0 : Int), .int .i64 (0 : Int), .slice none 0 0]) fun (p72 : Addr) =>
  bnd (wrs p72 0 [.int .i64 r71.1.1, .int .i64 r71.1.2.1, .int .i64 r71.1.2.2.1, .slice r71.1.2.2.2.a r71.1.2.2.2.len r71.1.2.2.2.cap]) fun _ =>
  bnd (ld (.agg (.pair (.int .i64) (.pair (.int .i64) (.pair (.int .i64) .sl)))) p1) fun (v73 : (Int × (Int × (Int × Sl)))) =>
  bnd (ld (.agg (.pair (.int .i64) (.pair (.int .i64) (.pair (.int .i64) .sl)))) p2) fun (v74 : (Int × (Int × (Int × Sl)))) =>
  bnd (ld (.agg (.pair (.int .i64) (.pair (.int .i64) (.pair (.int .i64) (.pair (.int .i64) (.pair (.int .i64) (.pair (.int .i64) (.pair (.int .i64) (.pair (.int .i64) (.pair (.int .i64) (.pair (.int .i64) (.pair (.int .i64) .sl)))))))))))) p3) fun (v75 : (Int × (Int × (Int × (Int × (Int × (Int × (Int × (Int × (Int × (Int × (Int × Sl)))))))))))) =>
  bnd (f29_palaverref11_Copy v73 v74 v75) fun (r76 : ((Int × (Int × (Int × Sl))) × Int)) =>
  bnd (newC 24 [.int .i64 (0 : Int), .int .i64 (0 : Int), .int .i64 (0 : Int), .slice none 0 0]) fun (p77 : Addr) =>
  bnd (wrs p77 0 [.int .i64 r76.1.1, .int .i64 r76.1.2.1, .int .i64 r76.1.2.2.1, .slice r76.1.2.2.2.a r76.1.2.2.2.len r76.1.2.2.2.cap]) fun _ =>
  bnd (ld (.agg (.pair (.int .i64) (.pair (.int .i64) (.pair (.int .i64) .sl)))) p72) fun (v78 : (Int × (Int × (Int × Sl)))) =>
  bnd (ld (.agg (.pair (.int .i64) (.pair (.int .i64) (.pair (.int .i64) .sl)))) p77) fun (v79 : (Int × (Int × (Int × Sl)))) =>
  bnd (f12_palaverlaw11_same v78 v79) fun (r80 : Bool) =>
  bnd (ld (.agg (.pair (.int .i64) (.pair (.int .i64) (.pair (.int .i64) .sl)))) p11) fun (v81 : (Int × (Int × (Int × Sl)))) =>
  bnd (ld (.agg (.pair (.int .i64) (.pair (.int .i64) (.pair (.int .i64) (.pair (.int .i64) (.pair (.int .i64) (.pair (.int .i64) (.pair (.int .i64) (.pair (.int .i64) (.pair (.int .i64) (.pair (.int .i64) (.pair (.int .i64) .sl)))))))))))) p19) fun (v82 : (Int × (Int × (Int × (Int × (Int × (Int × (Int × (Int × (Int × (Int × (Int × Sl)))))))))))) =>
  bnd (f30_bitblt_Move v81 v82) fun (r83 : ((Int × (Int × (Int × Sl))) × Int)) =>
  bnd (newC 24 [.int .i64 (0 : Int), .int .i64 (0 : Int), .int .i64 (0 : Int), .slice none 0 0]) fun (p84 : Addr) =>
  bnd (wrs p84 0 [.int .i64 r83.1.1, .int .i64 r83.1.2.1, .int .i64 r83.1.2.2.1, .slice r83.1.2.2.2.a r83.1.2.2.2.len r83.1.2.2.2.cap]) fun _ =>
  bnd (ld (.agg (.pair (.int .i64) (.pair (.int .i64) (.pair (.int .i64) .sl)))) p1) fun (v85 : (Int × (Int × (Int × Sl)))) =>
  bnd (ld (.agg (.pair (.int .i64) (.pair (.int .i64) (.pair (.int .i64) .sl)))) p1) fun (v86 : (Int × (Int × (Int × Sl)))) =>
  bnd (ld (.agg (.pair (.int .i64) (.pair (.int .i64) (.pair (.int .i64) (.pair (.int .i64) (.pair (.int .i64) (.pair (.int .i64) (.pair (.int .i64) (.pair (.int .i64) (.pair (.int .i64) (.pair (.int .i64) (.pair (.int .i64) .sl)))))))))))) p3) fun (v87 : (Int × (Int × (Int × (Int × (Int × (Int × (Int × (Int × (Int × (Int × (Int × Sl)))))))))))) =>
  bnd (f29_palaverref11_Copy v85 v86 v87) fun (r88 : ((Int × (Int × (Int × Sl))) × Int)) =>
  bnd (newC 24 [.int .i64 (0 : Int), .int .i64 (0 : Int), .int .i64 (0 : Int), .slice none 0 0]) fun (p89 : Addr) =>
  bnd (wrs p89 0 [.int .i64 r88.1.1, .int .i64 r88.1.2.1, .int .i64 r88.1.2.2.1, .slice r88.1.2.2.2.a r88.1.2.2.2.len r88.1.2.2.2.cap]) fun _ =>
  bnd (ld (.agg (.pair (.int .i64) (.pair (.int .i64) (.pair (.int .i64) .sl)))) p84) fun (v90 : (Int × (Int × (Int × Sl)))) =>
  bnd (ld (.agg (.pair (.int .i64) (.pair (.int .i64) (.pair (.int .i64) .sl)))) p89) fun (v91 : (Int × (Int × (Int × Sl)))) =>
  bnd (f12_palaverlaw11_same v90 v91) fun (r92 : Bool) =>
  bnd (ld (.agg (.pair (.int .i64) (.pair (.int .i64) (.pair (.int .i64) .sl)))) p11) fun (v93 : (Int × (Int × (Int × Sl)))) =>
  bnd (ld (.agg (.pair (.int .i64) (.pair (.int .i64) (.pair (.int .i64) (.pair (.int .i64) (.pair (.int .i64) (.pair (.int .i64) (.pair (.int .i64) (.pair (.int .i64) (.pair (.int .i64) (.pair (.int .i64) (.pair (.int .i64) .sl)))))))))))) p19) fun (v94 : (Int × (Int × (Int × (Int × (Int × (Int × (Int × (Int × (Int × (Int × (Int × Sl)))))))))))) =>
  bnd (f31_bitblt_Fill v93 v94) fun (r95 : ((Int × (Int × (Int × Sl))) × Int)) =>
  bnd (newC 24 [.int .i64 (0 : Int), .int .i64 (0 : Int), .int .i64 (0 : Int), .slice none 0 0]) fun (p96 : Addr) =>
  bnd (wrs p96 0 [.int .i64 r95.1.1, .int .i64 r95.1.2.1, .int .i64 r95.1.2.2.1, .slice r95.1.2.2.2.a r95.1.2.2.2.len r95.1.2.2.2.cap]) fun _ =>
  bnd (ld (.agg (.pair (.int .i64) (.pair (.int .i64) (.pair (.int .i64) .sl)))) p1) fun (v97 : (Int × (Int × (Int × Sl)))) =>
  bnd (ld (.agg (.pair (.int .i64) (.pair (.int .i64) (.pair (.int .i64) (.pair (.int .i64) (.pair (.int .i64) (.pair (.int .i64) (.pair (.int .i64) (.pair (.int .i64) (.pair (.int .i64) (.pair (.int .i64) (.pair (.int .i64) .sl)))))))))))) p3) fun (v98 : (Int × (Int × (Int × (Int × (Int × (Int × (Int × (Int × (Int × (Int × (Int × Sl)))))))))))) =>
  bnd (f32_palaverref11_Fill v97 v98) fun (r99 : ((Int × (Int × (Int × Sl))) × Int)) =>
  bnd (newC 24 [.int .i64 (0 : Int), .int .i64 (0 : Int), .int .i64 (0 : Int), .slice none 0 0]) fun (p100 : Addr) =>
  bnd (wrs p100 0 [.int .i64 r99.1.1, .int .i64 r99.1.2.1, .int .i64 r99.1.2.2.1, .slice r99.1.2.2.2.a r99.1.2.2.2.len r99.1.2.2.2.cap]) fun _ =>
  bnd (ld (.agg (.pair (.int .i64) (.pair (.int .i64) (.pair (.int .i64) .sl)))) p96) fun (v101 : (Int × (Int × (Int × Sl)))) =>
  bnd (ld (.agg (.pair (.int .i64) (.pair (.int .i64) (.pair (.int .i64) .sl)))) p100) fun (v102 : (Int × (Int × (Int × Sl)))) =>
  bnd (f12_palaverlaw11_same v101 v102) fun (r103 : Bool) =>
  bnd (ld .sl (Addr.add p11 3)) fun (v104 : Sl) =>
  bnd (ld .sl (Addr.add p1 3)) fun (v105 : Sl) =>
  bnd (f22_palaverref00_WholeBits v104 v105) fun (r106 : Bool) =>
  bnd (
  cnd r106 (
  bnd (ld .sl (Addr.add p15 3)) fun (v107 : Sl) =>
  bnd (ld .sl (Addr.add p2 3)) fun (v108 : Sl) =>
  bnd (f22_palaverref00_WholeBits v107 v108) fun (r109 : Bool) =>
  ret r109) (
  ret false)) fun (b110 : Bool) =>
  bnd (
  cnd b110 (
  bnd (ld .sl (Addr.add p19 11)) fun (v111 : Sl) =>
  bnd (ld .sl (Addr.add p3 11)) fun (v112 : Sl) =>
  bnd (f22_palaverref00_WholeBits v111 v112) fun (r113 : Bool) =>
  ret r113) (
  ret false)) fun (b114 : Bool) =>
  bnd (newC 48 [.slice none 0 0, .slice none 0 0, .slice none 0 0, .slice none 0 0, .slice none 0 0, .slice none 0 0, .slice none 0 0, .slice none 0 0]) fun (p115 : Addr) =>
  bnd (ld .sl (Addr.add p72 3)) fun (v116 : Sl) =>
  bnd (f23_palaverref00_Book_Bits (some p115) v116) fun (r117 : Unit) =>
  bnd (ld .sl (Addr.add p84 3)) fun (v118 : Sl) =>
  bnd (f23_palaverref00_Book_Bits (some p115) v118) fun (r119 : Unit) =>
  bnd (ld .sl (Addr.add p96 3)) fun (v120 : Sl) =>
  bnd (f23_palaverref00_Book_Bits (some p115) v120) fun (r121 : Unit) =>
  bnd (ld .sl (Addr.add p26 11)) fun (v122 : Sl) =>
  bnd (f23_palaverref00_Book_Bits (some p115) v122) fun (r123 : Unit) =>
  bnd (ld .sl (Addr.add p11 3)) fun (v124 : Sl) =>
  bnd (f23_palaverref00_Book_Bits (some p115) v124) fun (r125 : Unit) =>
  bnd (ld .sl (Addr.add p15 3)) fun (v126 : Sl) =>
  bnd (f23_palaverref00_Book_Bits (some p115) v126) fun (r127 : Unit) =>
  bnd (ld .sl (Addr.add p19 11)) fun (v128 : Sl) =>
  bnd (f23_palaverref00_Book_Bits (some p115) v128) fun (r129 : Unit) =>
  bnd (f24_palaverref00_Book_Own (some p115)) fun (r130 : Bool) =>
  ret (cond (cond (cond (cond (cond (cond r4 b67 false) (cond r80 (r71.2 == r76.2) false) false) (cond r92 (r83.2 == r88.2) false) false) (cond r103 (r95.2 == r99.2) false) false) b114 false) r130 false))
noncomputable def Af4_palaverlaw11_BitCopies : Ann := (.two .nil (.two .nil (.two .nil (.two (.two .nil (.two (.two .nil .nil) .nil)) (.two .nil (.two .nil (.two .nil (.two .nil (.two .nil (.two .nil (.two .nil (.two .nil (.two .nil (.two .nil (.two .nil (.two .nil (.two .nil (.two .nil (.two .nil (.two .nil (.two .nil (.two .nil (.two .nil (.two .nil (.two .nil (.two .nil (.two .nil (.two .nil (.two .nil (.two .nil (.two .nil (.two .nil (.two .nil (.two .nil .nil))))))))))))))))))))))))))))))))))
theorem Cf4_palaverlaw11_BitCopies_ok : Cf4_palaverlaw11_BitCopies.Ok := mkC_ok mixed tysOk zerosOk eqsOk ⟨Sf8_palaverlaw11_works, Sf9_palaverlaw11_far, Sf12_palaverlaw11_same, Sf13_palaverref00_LentBits, Sf22_palaverref00_WholeBits, Sf23_palaverref00_Book_Bits, Sf24_palaverref00_Book_Own, Sf25_bitblt_Clip, Sf26_palaverref11_Clip, Sf27_palaverref00_SameBits, Sf28_bitblt_Copy, Sf29_palaverref11_Copy, Sf30_bitblt_Move, Sf31_bitblt_Fill, Sf32_palaverref11_Fill, trivial⟩ trivial
theorem Ef4_palaverlaw11_BitCopies (x : ((Int × (Int × (Int × Sl))) × ((Int × (Int × (Int × Sl))) × (Int × (Int × (Int × (Int × (Int × (Int × (Int × (Int × (Int × (Int × (Int × Sl)))))))))))))) : evF Cf4_palaverlaw11_BitCopies Try.f4 294 (.pair (.agg (.pair (.int .i64) (.pair (.int .i64) (.pair (.int .i64) .sl)))) (.pair (.agg (.pair (.int .i64) (.pair (.int .i64) (.pair (.int .i64) .sl)))) (.agg (.pair (.int .i64) (.pair (.int .i64) (.pair (.int .i64) (.pair (.int .i64) (.pair (.int .i64) (.pair (.int .i64) (.pair (.int .i64) (.pair (.int .i64) (.pair (.int .i64) (.pair (.int .i64) (.pair (.int .i64) .sl)))))))))))))) .bool Af4_palaverlaw11_BitCopies x = f4_palaverlaw11_BitCopies x.1 x.2.1 x.2.2 := by kernel_rfl
theorem Sf4_palaverlaw11_BitCopies : SoundF Try.prog 4 ⟨(.pair (.agg (.pair (.int .i64) (.pair (.int .i64) (.pair (.int .i64) .sl)))) (.pair (.agg (.pair (.int .i64) (.pair (.int .i64) (.pair (.int .i64) .sl)))) (.agg (.pair (.int .i64) (.pair (.int .i64) (.pair (.int .i64) (.pair (.int .i64) (.pair (.int .i64) (.pair (.int .i64) (.pair (.int .i64) (.pair (.int .i64) (.pair (.int .i64) (.pair (.int .i64) (.pair (.int .i64) .sl)))))))))))))), .bool, fun x => f4_palaverlaw11_BitCopies x.1 x.2.1 x.2.2⟩ :=
  soundF_of Cf4_palaverlaw11_BitCopies_ok Try.func4 (by kernel_rfl) (by kernel_rfl) Ef4_palaverlaw11_BitCopies
noncomputable def Cf5_palaverlaw11_BitOutside : Ctx := mkC Try.prog tys zeros eqs [(8, ⟨.unit, .bool, fun _ => f8_palaverlaw11_works⟩), (9, ⟨(.pair (.agg (.pair (.int .i64) (.pair (.int .i64) (.pair (.int .i64) .sl)))) (.agg (.pair (.int .i64) (.pair (.int .i64) (.pair (.int .i64) .sl))))), .bool, fun x => f9_palaverlaw11_far x.1 x.2⟩), (16, ⟨(.pair (.agg (.pair (.int .i64) (.pair (.int .i64) (.pair (.int .i64) .sl)))) (.pair (.int .i64) (.int .i64))), (.tup (.pair (.int .u32) (.int .i64))), fun x => f16_bitblt_Pixel x.1 x.2.1 x.2.2⟩), (20, ⟨(.pair (.int .i64) (.pair (.int .u32) (.int .u32))), (.tup (.pair (.int .u32) (.int .i64))), fun x => f20_bitblt_Rule x.1 x.2.1 x.2.2⟩), (25, ⟨(.pair (.agg (.pair (.int .i64) (.pair (.int .i64) (.pair (.int .i64) .sl)))) (.pair (.agg (.pair (.int .i64) (.pair (.int .i64) (.pair (.int .i64) .sl)))) (.agg (.pair (.int .i64) (.pair (.int .i64) (.pair (.int .i64) (.pair (.int .i64) (.pair (.int .i64) (.pair (.int .i64) (.pair (.int .i64) (.pair (.int .i64) (.pair (.int .i64) (.pair (.int .i64) (.pair (.int .i64) .sl)))))))))))))), (.tup (.pair (.agg (.pair (.int .i64) (.pair (.int .i64) (.pair (.int .i64) (.pair (.int .i64) (.pair (.int .i64) (.pair (.int .i64) (.pair (.int .i64) (.pair (.int .i64) (.pair (.int .i64) (.pair (.int .i64) (.pair (.int .i64) .sl)))))))))))) (.int .i64))), fun x => f25_bitblt_Clip x.1 x.2.1 x.2.2⟩), (28, ⟨(.pair (.agg (.pair (.int .i64) (.pair (.int .i64) (.pair (.int .i64) .sl)))) (.pair (.agg (.pair (.int .i64) (.pair (.int .i64) (.pair (.int .i64) .sl)))) (.agg (.pair (.int .i64) (.pair (.int .i64) (.pair (.int .i64) (.pair (.int .i64) (.pair (.int .i64) (.pair (.int .i64) (.pair (.int .i64) (.pair (.int .i64) (.pair (.int .i64) (.pair (.int .i64) (.pair (.int .i64) .sl)))))))))))))), (.tup (.pair (.agg (.pair (.int .i64) (.pair (.int .i64) (.pair (.int .i64) .sl)))) (.int .i64))), fun x => f28_bitblt_Copy x.1 x.2.1 x.2.2⟩)] []
/-- palaverpalaverlaw11.BitOutside -/
noncomputable def f5_palaverlaw11_BitOutside (x0 : (Int × (Int × (Int × Sl)))) (x1 : (Int × (Int × (Int × Sl)))) (x2 : (Int × (Int × (Int × (Int × (Int × (Int × (Int × (Int × (Int × (Int × (Int × Sl)))))))))))) : M Bool :=
  bnd (newC 24 [.int .i64 x0.1, .int .i64 x0.2.1, .int .i64 x0.2.2.1, .slice x0.2.2.2.a x0.2.2.2.len x0.2.2.2.cap]) fun (p1 : Addr) =>
  bnd (newC 24 [.int .i64 x1.1, .int .i64 x1.2.1, .int .i64 x1.2.2.1, .slice x1.2.2.2.a x1.2.2.2.len x1.2.2.2.cap]) fun (p2 : Addr) =>
  bnd (newC 52 [.int .i64 x2.1, .int .i64 x2.2.1, .int .i64 x2.2.2.1, .int .i64 x2.2.2.2.1, .int .i64 x2.2.2.2.2.1, .int .i64 x2.2.2.2.2.2.1, .int .i64 x2.2.2.2.2.2.2.1, .int .i64 x2.2.2.2.2.2.2.2.1, .int .i64 x2.2.2.2.2.2.2.2.2.1, .int .i64 x2.2.2.2.2.2.2.2.2.2.1, .int .i64 x2.2.2.2.2.2.2.2.2.2.2.1, .slice x2.2.2.2.2.2.2.2.2.2.2.2.a x2.2.2.2.2.2.2.2.2.2.2.2.len x2.2.2.2.2.2.2.2.2.2.2.2.cap]) fun (p3 : Addr) =>
  bnd f8_palaverlaw11_works fun (r4 : Bool) =>
  bnd (ld (.agg (.pair (.int .i64) (.pair (.int .i64) (.pair (.int .i64) .sl)))) p1) fun (v5 : (Int × (Int × (Int × Sl)))) =>
  bnd (ld (.agg (.pair (.int .i64) (.pair (.int .i64) (.pair (.int .i64) .sl)))) p2) fun (v6 : (Int × (Int × (Int × Sl)))) =>
  bnd (f9_palaverlaw11_far v5 v6) fun (r7 : Bool) =>
  bnd (
  cnd r7 (
  ret true) (
  bnd (ld (.int .i64) (Addr.add p1 0)) fun (v8 : Int) =>
  bnd (ld (.int .i64) (Addr.add p1 1)) fun (v9 : Int) =>
  ret (decide ((IntKind.wrap .i64 (v8 * v9)) > (65536 : Int))))) fun (b10 : Bool) =>
  cnd b10 (
  ret r4) (
  bnd (ld (.agg (.pair (.int .i64) (.pair (.int .i64) (.pair (.int .i64) .sl)))) p1) fun (v11 : (Int × (Int × (Int × Sl)))) =>
  bnd (ld (.agg (.pair (.int .i64) (.pair (.int .i64) (.pair (.int .i64) .sl)))) p2) fun (v12 : (Int × (Int × (Int × Sl)))) =>
  bnd (ld (.agg (.pair (.int .i64) (.pair (.int .i64) (.pair (.int .i64) (.pair (.int .i64) (.pair (.int .i64) (.pair (.int .i64) (.pair (.int .i64) (.pair (.int .i64) (.pair (.int .i64) (.pair (.int .i64) (.pair (.int .i64) .sl)))))))))))) p3) fun (v13 : (Int × (Int × (Int × (Int × (Int × (Int × (Int × (Int × (Int × (Int × (Int × Sl)))))))))))) =>
  bnd (f25_bitblt_Clip v11 v12 v13) fun (r14 : ((Int × (Int × (Int × (Int × (Int × (Int × (Int × (Int × (Int × (Int × (Int × Sl))))))))))) × Int)) =>
  bnd (newC 52 [.int .i64 (0 : Int), .int .i64 (0 : Int), .int .i64 (0 : Int), .int .i64 (0 : Int), .int .i64 (0 : Int), .int .i64 (0 : Int), .int .i64 (0 : Int), .int .i64 (0 : Int), .int .i64 (0 : Int), .int .i64 (0 : Int), .int .i64 (0 : Int), .slice none 0 0]) fun (p15 : Addr) =>
  bnd (wrs p15 0 [.int .i64 r14.1.1, .int .i64 r14.1.2.1, .int .i64 r14.1.2.2.1, .int .i64 r14.1.2.2.2.1, .int .i64 r14.1.2.2.2.2.1, .int .i64 r14.1.2.2.2.2.2.1, .int .i64 r14.1.2.2.2.2.2.2.1, .int .i64 r14.1.2.2.2.2.2.2.2.1, .int .i64 r14.1.2.2.2.2.2.2.2.2.1, .int .i64 r14.1.2.2.2.2.2.2.2.2.2.1, .int .i64 r14.1.2.2.2.2.2.2.2.2.2.2.1, .slice r14.1.2.2.2.2.2.2.2.2.2.2.2.a r14.1.2.2.2.2.2.2.2.2.2.2.2.len r14.1.2.2.2.2.2.2.2.2.2.2.2.cap]) fun _ =>
  bnd (ld (.agg (.pair (.int .i64) (.pair (.int .i64) (.pair (.int .i64) .sl)))) p1) fun (v16 : (Int × (Int × (Int × Sl)))) =>
  bnd (ld (.agg (.pair (.int .i64) (.pair (.int .i64) (.pair (.int .i64) .sl)))) p2) fun (v17 : (Int × (Int × (Int × Sl)))) =>
  bnd (ld (.agg (.pair (.int .i64) (.pair (.int .i64) (.pair (.int .i64) (.pair (.int .i64) (.pair (.int .i64) (.pair (.int .i64) (.pair (.int .i64) (.pair (.int .i64) (.pair (.int .i64) (.pair (.int .i64) (.pair (.int .i64) .sl)))))))))))) p3) fun (v18 : (Int × (Int × (Int × (Int × (Int × (Int × (Int × (Int × (Int × (Int × (Int × Sl)))))))))))) =>
  bnd (f28_bitblt_Copy v16 v17 v18) fun (r19 : ((Int × (Int × (Int × Sl))) × Int)) =>
  bnd (newC 24 [.int .i64 (0 : Int), .int .i64 (0 : Int), .int .i64 (0 : Int), .slice none 0 0]) fun (p20 : Addr) =>
  bnd (wrs p20 0 [.int .i64 r19.1.1, .int .i64 r19.1.2.1, .int .i64 r19.1.2.2.1, .slice r19.1.2.2.2.a r19.1.2.2.2.len r19.1.2.2.2.cap]) fun _ =>
  cnd (r14.2 != (0 : Int)) (
  bnd (
  cnd (cond r4 (r19.2 == r14.2) false) (
  bnd (ld .sl (Addr.add p20 3)) fun (v21 : Sl) =>
  ret ((v21.len : Int) == (0 : Int))) (
  ret false)) fun (b22 : Bool) =>
  ret b22) (
  bnd (ld (.int .i64) (Addr.add p15 3)) fun (v23 : Int) =>
  bnd (
  cnd (decide (v23 < (0 : Int))) (
  ret true) (
  bnd (ld (.int .i64) (Addr.add p15 4)) fun (v24 : Int) =>
  ret (decide (v24 < (0 : Int))))) fun (b25 : Bool) =>
  cnd (cond b25 true (r19.2 != (0 : Int))) (
  ret false) (
  loopM (fun (s26 : Int) =>
  bnd (ld (.int .i64) (Addr.add p1 1)) fun (v27 : Int) =>
  cnd (decide (s26 < v27)) (
  loopM (fun (s28 : Int) =>
  bnd (ld (.int .i64) (Addr.add p1 0)) fun (v29 : Int) =>
  cnd (decide (s28 < v29)) (
  bnd (
  bnd (ld (.agg (.pair (.int .i64) (.pair (.int .i64) (.pair (.int .i64) .sl)))) p1) fun (v31 : (Int × (Int × (Int × Sl)))) =>
  bnd (f16_bitblt_Pixel v31 s28 s26) fun (r32 : (Int × Int)) =>
  bnd (ld (.agg (.pair (.int .i64) (.pair (.int .i64) (.pair (.int .i64) .sl)))) p20) fun (v33 : (Int × (Int × (Int × Sl)))) =>
  bnd (f16_bitblt_Pixel v33 s28 s26) fun (r34 : (Int × Int)) =>
  bnd (ld (.int .i64) (Addr.add p15 1)) fun (v35 : Int) =>
  bnd (
  cnd (decide (s28 ≥ v35)) (
  bnd (ld (.int .i64) (Addr.add p15 1)) fun (v36 : Int) =>
  bnd (ld (.int .i64) (Addr.add p15 3)) fun (v37 : Int) =>
  ret (decide (s28 < (IntKind.wrap .i64 (v36 + v37))))) (
  ret false)) fun (b38 : Bool) =>
  bnd (
  cnd b38 (
  bnd (ld (.int .i64) (Addr.add p15 2)) fun (v39 : Int) =>
  ret (decide (s26 ≥ v39))) (
  ret false)) fun (b40 : Bool) =>
  bnd (
  cnd b40 (
  bnd (ld (.int .i64) (Addr.add p15 2)) fun (v41 : Int) =>
  bnd (ld (.int .i64) (Addr.add p15 4)) fun (v42 : Int) =>
  ret (decide (s26 < (IntKind.wrap .i64 (v41 + v42))))) (
  ret false)) fun (b43 : Bool) =>
  cnd (!b43) (
  cnd (cond (r34.2 != (0 : Int)) true (r34.1 != r32.1)) (
  ret (Sum.inr (Sum.inr (Sum.inr false)))) (
  ret (Sum.inl ()))) (
  bnd (ld (.agg (.pair (.int .i64) (.pair (.int .i64) (.pair (.int .i64) .sl)))) p2) fun (v45 : (Int × (Int × (Int × Sl)))) =>
  bnd (ld (.int .i64) (Addr.add p15 5)) fun (v46 : Int) =>
  bnd (ld (.int .i64) (Addr.add p15 1)) fun (v47 : Int) =>
  bnd (ld (.int .i64) (Addr.add p15 6)) fun (v48 : Int) =>
  bnd (ld (.int .i64) (Addr.add p15 2)) fun (v49 : Int) =>
  bnd (f16_bitblt_Pixel v45 (IntKind.wrap .i64 ((IntKind.wrap .i64 (v46 + s28)) - v47)) (IntKind.wrap .i64 ((IntKind.wrap .i64 (v48 + s26)) - v49))) fun (r50 : (Int × Int)) =>
  cnd (r50.2 != (0 : Int)) (
  ret (Sum.inr (Sum.inr (Sum.inr false)))) (
  bnd (ld .sl (Addr.add p3 11)) fun (v52 : Sl) =>
  bnd (
  cnd ((v52.len : Int) == (0 : Int)) (
  bnd (ld (.int .i64) (Addr.add p3 0)) fun (v54 : Int) =>
  bnd (f20_bitblt_Rule v54 r50.1 r32.1) fun (r55 : (Int × Int)) =>
  bnd (ld (.int .i64) (Addr.add p1 2)) fun (v56 : Int) =>
  bnd (cnt (IntKind.wrap .u64 (IntKind.wrap .i64 ((32 : Int) - v56)))) fun (c57 : Nat) =>
  bnd (ld (.int .i64) (Addr.add p1 2)) fun (v58 : Int) =>
  bnd (cnt (IntKind.wrap .u64 (IntKind.wrap .i64 ((32 : Int) - v58)))) fun (c59 : Nat) =>
  cnd (r34.1 != (shrI .u32 (shlI .u32 r55.1 c57) c59)) (
  ret (Sum.inr (Sum.inr (Sum.inr (Sum.inr false))))) (
  ret (Sum.inl ()))) (
  ret (Sum.inl ()))) (fun
  | .inl (s53 : Unit) =>
  ret (Sum.inl ())
  | .inr r63 => ret r63)))) (fun
  | .inl (s30 : Unit) =>
  ret (Sum.inl (IntKind.wrap .i64 (s28 + (1 : Int))))
  | .inr r65 => ret r65)) (
  ret (Sum.inr (Sum.inl (IntKind.wrap .i64 (s26 + (1 : Int))))))) (0 : Int)) (
  bnd (
  bnd (ld (.agg (.pair (.int .i64) (.pair (.int .i64) (.pair (.int .i64) .sl)))) p1) fun (v66 : (Int × (Int × (Int × Sl)))) =>
  bnd (ld (.agg (.pair (.int .i64) (.pair (.int .i64) (.pair (.int .i64) .sl)))) p2) fun (v67 : (Int × (Int × (Int × Sl)))) =>
  bnd (ld (.agg (.pair (.int .i64) (.pair (.int .i64) (.pair (.int .i64) (.pair (.int .i64) (.pair (.int .i64) (.pair (.int .i64) (.pair (.int .i64) (.pair (.int .i64) (.pair (.int .i64) (.pair (.int .i64) (.pair (.int .i64) .sl)))))))))))) p15) fun (v68 : (Int × (Int × (Int × (Int × (Int × (Int × (Int × (Int × (Int × (Int × (Int × Sl)))))))))))) =>
  bnd (f25_bitblt_Clip v66 v67 v68) fun (r69 : ((Int × (Int × (Int × (Int × (Int × (Int × (Int × (Int × (Int × (Int × (Int × Sl))))))))))) × Int)) =>
  bnd (newC 52 [.int .i64 (0 : Int), .int .i64 (0 : Int), .int .i64 (0 : Int), .int .i64 (0 : Int), .int .i64 (0 : Int), .int .i64 (0 : Int), .int .i64 (0 : Int), .int .i64 (0 : Int), .int .i64 (0 : Int), .int .i64 (0 : Int), .int .i64 (0 : Int), .slice none 0 0]) fun (p70 : Addr) =>
  bnd (wrs p70 0 [.int .i64 r69.1.1, .int .i64 r69.1.2.1, .int .i64 r69.1.2.2.1, .int .i64 r69.1.2.2.2.1, .int .i64 r69.1.2.2.2.2.1, .int .i64 r69.1.2.2.2.2.2.1, .int .i64 r69.1.2.2.2.2.2.2.1, .int .i64 r69.1.2.2.2.2.2.2.2.1, .int .i64 r69.1.2.2.2.2.2.2.2.2.1, .int .i64 r69.1.2.2.2.2.2.2.2.2.2.1, .int .i64 r69.1.2.2.2.2.2.2.2.2.2.2.1, .slice r69.1.2.2.2.2.2.2.2.2.2.2.2.a r69.1.2.2.2.2.2.2.2.2.2.2.2.len r69.1.2.2.2.2.2.2.2.2.2.2.2.cap]) fun _ =>
  bnd (
  cnd (cond r4 (r69.2 == (0 : Int)) false) (
  bnd (ld (.int .i64) (Addr.add p70 1)) fun (v71 : Int) =>
  bnd (ld (.int .i64) (Addr.add p15 1)) fun (v72 : Int) =>
  ret (v71 == v72)) (
  ret false)) fun (b73 : Bool) =>
  bnd (
  cnd b73 (
  bnd (ld (.int .i64) (Addr.add p70 2)) fun (v74 : Int) =>
  bnd (ld (.int .i64) (Addr.add p15 2)) fun (v75 : Int) =>
  ret (v74 == v75)) (
  ret false)) fun (b76 : Bool) =>
  bnd (
  cnd b76 (
  bnd (ld (.int .i64) (Addr.add p70 5)) fun (v77 : Int) =>
  bnd (ld (.int .i64) (Addr.add p15 5)) fun (v78 : Int) =>
  ret (v77 == v78)) (
  ret false)) fun (b79 : Bool) =>
  bnd (
  cnd b79 (
  bnd (ld (.int .i64) (Addr.add p70 6)) fun (v80 : Int) =>
  bnd (ld (.int .i64) (Addr.add p15 6)) fun (v81 : Int) =>
  ret (v80 == v81)) (
  ret false)) fun (b82 : Bool) =>
  bnd (
  cnd b82 (
  bnd (ld (.int .i64) (Addr.add p70 3)) fun (v83 : Int) =>
  bnd (ld (.int .i64) (Addr.add p15 3)) fun (v84 : Int) =>
  ret (v83 == v84)) (
  ret false)) fun (b85 : Bool) =>
  bnd (
  cnd b85 (
  bnd (ld (.int .i64) (Addr.add p70 4)) fun (v86 : Int) =>
  bnd (ld (.int .i64) (Addr.add p15 4)) fun (v87 : Int) =>
  ret (v86 == v87)) (
  ret false)) fun (b88 : Bool) =>
  ret b88) fun r89 =>
  ret (Sum.inr r89))) (0 : Int))))
noncomputable def Af5_palaverlaw11_BitOutside : Ann := (.two .nil (.two .nil (.two .nil (.two (.two .nil (.two (.two .nil .nil) .nil)) (.two .nil (.two .nil (.two (.two .nil (.two (.two .nil .nil) .nil)) (.two (.two .nil (.two (.two .nil .nil) .nil)) (.two (.two .nil (.one (.loop [(13, (.int .i64))] [6, 14, 15, 16, 17, 18, 19, 20, 21, 22, 23, 80, 81, 82, 83, 84, 85, 86, 87, 88, 89, 90, 91, 92, 93, 94, 95, 96, 97, 98, 99, 100, 101, 102, 103, 104, 105, 106, 107, 108, 109, 110, 111, 112, 113, 114, 115, 116, 117, 118, 119, 120, 121, 122, 123, 124, 125, 126, 127, 128, 129, 130, 131, 132, 133, 134, 135, 136, 137, 138, 139, 140, 141, 142, 143, 144, 145, 146, 147, 148, 149, 150, 151, 152, 153, 154, 155, 156, 157, 158, 159, 160, 161, 162, 163, 164, 165, 166, 167, 168, 169, 170, 171, 172, 173, 174, 175, 176, 177, 178, 179, 180, 181, 182, 183, 184, 185, 186, 187, 188] (.two (.two .nil (.two .nil .nil)) (.two (.one (.two .nil (.one (.loop [(14, (.int .i64))] [6, 15, 16, 17, 18, 19, 20, 21, 22, 23, 86, 87, 88, 89, 90, 91, 92, 93, 94, 95, 96, 97, 98, 99, 100, 101, 102, 103, 104, 105, 106, 107, 108, 109, 110, 111, 112, 113, 114, 115, 116, 117, 118, 119, 120, 121, 122, 123, 124, 125, 126, 127, 128, 129, 130, 131, 132, 133, 134, 135, 136, 137, 138, 139, 140, 141, 142, 143, 144, 145, 146, 147, 148, 149, 150, 151, 152, 153, 154, 155, 156, 157, 158, 159, 160, 161, 162, 163, 164, 165, 166, 167, 168, 169, 170, 171, 172, 173, 174, 175, 176, 177, 178, 179, 180, 181, 182, 183, 184, 185, 186, 187, 188] (.two (.two .nil (.two .nil .nil)) (.two (.join [] [6, 15, 16, 17, 18, 19, 20, 21, 22, 23, 92, 93, 94, 95, 96, 97, 98, 99, 100, 101, 102, 103, 104, 105, 106, 107, 108, 109, 110, 111, 112, 113, 114, 115, 116, 117, 118, 119, 120, 121, 122, 123, 124, 125, 126, 127, 128, 129, 130, 131, 132, 133, 134, 135, 136, 137, 138, 139, 140, 141, 142, 143, 144, 145, 146, 147, 148, 149, 150, 151, 152, 153, 154, 155, 156, 157, 158, 159, 160, 161, 162, 163, 164, 165, 166, 167, 168, 169, 170, 171, 172, 173, 174, 175, 176, 177, 178, 179, 180, 181, 182, 183, 184, 185, 186, 187, 188] true (.one (.two .nil (.two .nil (.two .nil (.two (.two .nil (.two (.two (.two .nil (.two (.two .nil .nil) .nil)) .nil) .nil)) (.two .nil (.two (.two .nil (.two (.two .nil .nil) .nil)) (.two .nil (.join [] [6, 22, 23, 168, 169, 170, 171, 172, 173, 174, 175, 176, 177, 178, 179, 180, 181, 182, 183, 184, 185, 186, 187, 188] true (.two (.two .nil (.two .nil (.two (.two .nil .nil) .nil))) .nil))))))))))) .nil)))))) .nil))))) (.two .nil (.two .nil .nil)))))))))))
theorem Cf5_palaverlaw11_BitOutside_ok : Cf5_palaverlaw11_BitOutside.Ok := mkC_ok mixed tysOk zerosOk eqsOk ⟨Sf8_palaverlaw11_works, Sf9_palaverlaw11_far, Sf16_bitblt_Pixel, Sf20_bitblt_Rule, Sf25_bitblt_Clip, Sf28_bitblt_Copy, trivial⟩ trivial
theorem Ef5_palaverlaw11_BitOutside (x : ((Int × (Int × (Int × Sl))) × ((Int × (Int × (Int × Sl))) × (Int × (Int × (Int × (Int × (Int × (Int × (Int × (Int × (Int × (Int × (Int × Sl)))))))))))))) : evF Cf5_palaverlaw11_BitOutside Try.f5 243 (.pair (.agg (.pair (.int .i64) (.pair (.int .i64) (.pair (.int .i64) .sl)))) (.pair (.agg (.pair (.int .i64) (.pair (.int .i64) (.pair (.int .i64) .sl)))) (.agg (.pair (.int .i64) (.pair (.int .i64) (.pair (.int .i64) (.pair (.int .i64) (.pair (.int .i64) (.pair (.int .i64) (.pair (.int .i64) (.pair (.int .i64) (.pair (.int .i64) (.pair (.int .i64) (.pair (.int .i64) .sl)))))))))))))) .bool Af5_palaverlaw11_BitOutside x = f5_palaverlaw11_BitOutside x.1 x.2.1 x.2.2 := by kernel_rfl
theorem Sf5_palaverlaw11_BitOutside : SoundF Try.prog 5 ⟨(.pair (.agg (.pair (.int .i64) (.pair (.int .i64) (.pair (.int .i64) .sl)))) (.pair (.agg (.pair (.int .i64) (.pair (.int .i64) (.pair (.int .i64) .sl)))) (.agg (.pair (.int .i64) (.pair (.int .i64) (.pair (.int .i64) (.pair (.int .i64) (.pair (.int .i64) (.pair (.int .i64) (.pair (.int .i64) (.pair (.int .i64) (.pair (.int .i64) (.pair (.int .i64) (.pair (.int .i64) .sl)))))))))))))), .bool, fun x => f5_palaverlaw11_BitOutside x.1 x.2.1 x.2.2⟩ :=
  soundF_of Cf5_palaverlaw11_BitOutside_ok Try.func5 (by kernel_rfl) (by kernel_rfl) Ef5_palaverlaw11_BitOutside
noncomputable def Cf6_palaverlaw11_BitRules : Ctx := mkC Try.prog tys zeros eqs [(8, ⟨.unit, .bool, fun _ => f8_palaverlaw11_works⟩), (9, ⟨(.pair (.agg (.pair (.int .i64) (.pair (.int .i64) (.pair (.int .i64) .sl)))) (.agg (.pair (.int .i64) (.pair (.int .i64) (.pair (.int .i64) .sl))))), .bool, fun x => f9_palaverlaw11_far x.1 x.2⟩), (12, ⟨(.pair (.agg (.pair (.int .i64) (.pair (.int .i64) (.pair (.int .i64) .sl)))) (.agg (.pair (.int .i64) (.pair (.int .i64) (.pair (.int .i64) .sl))))), .bool, fun x => f12_palaverlaw11_same x.1 x.2⟩), (28, ⟨(.pair (.agg (.pair (.int .i64) (.pair (.int .i64) (.pair (.int .i64) .sl)))) (.pair (.agg (.pair (.int .i64) (.pair (.int .i64) (.pair (.int .i64) .sl)))) (.agg (.pair (.int .i64) (.pair (.int .i64) (.pair (.int .i64) (.pair (.int .i64) (.pair (.int .i64) (.pair (.int .i64) (.pair (.int .i64) (.pair (.int .i64) (.pair (.int .i64) (.pair (.int .i64) (.pair (.int .i64) .sl)))))))))))))), (.tup (.pair (.agg (.pair (.int .i64) (.pair (.int .i64) (.pair (.int .i64) .sl)))) (.int .i64))), fun x => f28_bitblt_Copy x.1 x.2.1 x.2.2⟩)] []
/-- palaverpalaverlaw11.BitRules -/
noncomputable def f6_palaverlaw11_BitRules (x0 : (Int × (Int × (Int × Sl)))) (x1 : (Int × (Int × (Int × Sl)))) (x2 : (Int × (Int × (Int × (Int × (Int × (Int × (Int × (Int × (Int × (Int × (Int × Sl)))))))))))) : M Bool :=
  bnd (newC 24 [.int .i64 x0.1, .int .i64 x0.2.1, .int .i64 x0.2.2.1, .slice x0.2.2.2.a x0.2.2.2.len x0.2.2.2.cap]) fun (p1 : Addr) =>
  bnd (newC 24 [.int .i64 x1.1, .int .i64 x1.2.1, .int .i64 x1.2.2.1, .slice x1.2.2.2.a x1.2.2.2.len x1.2.2.2.cap]) fun (p2 : Addr) =>
  bnd (newC 52 [.int .i64 x2.1, .int .i64 x2.2.1, .int .i64 x2.2.2.1, .int .i64 x2.2.2.2.1, .int .i64 x2.2.2.2.2.1, .int .i64 x2.2.2.2.2.2.1, .int .i64 x2.2.2.2.2.2.2.1, .int .i64 x2.2.2.2.2.2.2.2.1, .int .i64 x2.2.2.2.2.2.2.2.2.1, .int .i64 x2.2.2.2.2.2.2.2.2.2.1, .int .i64 x2.2.2.2.2.2.2.2.2.2.2.1, .slice x2.2.2.2.2.2.2.2.2.2.2.2.a x2.2.2.2.2.2.2.2.2.2.2.2.len x2.2.2.2.2.2.2.2.2.2.2.2.cap]) fun (p3 : Addr) =>
  bnd f8_palaverlaw11_works fun (r4 : Bool) =>
  bnd (ld (.agg (.pair (.int .i64) (.pair (.int .i64) (.pair (.int .i64) .sl)))) p1) fun (v5 : (Int × (Int × (Int × Sl)))) =>
  bnd (ld (.agg (.pair (.int .i64) (.pair (.int .i64) (.pair (.int .i64) .sl)))) p2) fun (v6 : (Int × (Int × (Int × Sl)))) =>
  bnd (f9_palaverlaw11_far v5 v6) fun (r7 : Bool) =>
  cnd r7 (
  ret r4) (
  bnd (wrs (Addr.add p3 11) 0 [.slice none 0 0]) fun _ =>
  bnd (wrs (Addr.add p3 0) 0 [.int .i64 (5 : Int)]) fun _ =>
  bnd (ld (.agg (.pair (.int .i64) (.pair (.int .i64) (.pair (.int .i64) .sl)))) p1) fun (v8 : (Int × (Int × (Int × Sl)))) =>
  bnd (ld (.agg (.pair (.int .i64) (.pair (.int .i64) (.pair (.int .i64) .sl)))) p2) fun (v9 : (Int × (Int × (Int × Sl)))) =>
  bnd (ld (.agg (.pair (.int .i64) (.pair (.int .i64) (.pair (.int .i64) (.pair (.int .i64) (.pair (.int .i64) (.pair (.int .i64) (.pair (.int .i64) (.pair (.int .i64) (.pair (.int .i64) (.pair (.int .i64) (.pair (.int .i64) .sl)))))))))))) p3) fun (v10 : (Int × (Int × (Int × (Int × (Int × (Int × (Int × (Int × (Int × (Int × (Int × Sl)))))))))))) =>
  bnd (f28_bitblt_Copy v8 v9 v10) fun (r11 : ((Int × (Int × (Int × Sl))) × Int)) =>
  bnd (newC 24 [.int .i64 (0 : Int), .int .i64 (0 : Int), .int .i64 (0 : Int), .slice none 0 0]) fun (p12 : Addr) =>
  bnd (wrs p12 0 [.int .i64 r11.1.1, .int .i64 r11.1.2.1, .int .i64 r11.1.2.2.1, .slice r11.1.2.2.2.a r11.1.2.2.2.len r11.1.2.2.2.cap]) fun _ =>
  cnd (r11.2 != (0 : Int)) (
  bnd (
  cnd r4 (
  bnd (ld .sl (Addr.add p12 3)) fun (v13 : Sl) =>
  ret ((v13.len : Int) == (0 : Int))) (
  ret false)) fun (b14 : Bool) =>
  ret b14) (
  bnd (wrs (Addr.add p3 0) 0 [.int .i64 (6 : Int)]) fun _ =>
  bnd (ld (.agg (.pair (.int .i64) (.pair (.int .i64) (.pair (.int .i64) .sl)))) p1) fun (v15 : (Int × (Int × (Int × Sl)))) =>
  bnd (ld (.agg (.pair (.int .i64) (.pair (.int .i64) (.pair (.int .i64) .sl)))) p2) fun (v16 : (Int × (Int × (Int × Sl)))) =>
  bnd (ld (.agg (.pair (.int .i64) (.pair (.int .i64) (.pair (.int .i64) (.pair (.int .i64) (.pair (.int .i64) (.pair (.int .i64) (.pair (.int .i64) (.pair (.int .i64) (.pair (.int .i64) (.pair (.int .i64) (.pair (.int .i64) .sl)))))))))))) p3) fun (v17 : (Int × (Int × (Int × (Int × (Int × (Int × (Int × (Int × (Int × (Int × (Int × Sl)))))))))))) =>
  bnd (f28_bitblt_Copy v15 v16 v17) fun (r18 : ((Int × (Int × (Int × Sl))) × Int)) =>
  bnd (newC 24 [.int .i64 (0 : Int), .int .i64 (0 : Int), .int .i64 (0 : Int), .slice none 0 0]) fun (p19 : Addr) =>
  bnd (wrs p19 0 [.int .i64 r18.1.1, .int .i64 r18.1.2.1, .int .i64 r18.1.2.2.1, .slice r18.1.2.2.2.a r18.1.2.2.2.len r18.1.2.2.2.cap]) fun _ =>
  bnd (ld (.agg (.pair (.int .i64) (.pair (.int .i64) (.pair (.int .i64) .sl)))) p19) fun (v20 : (Int × (Int × (Int × Sl)))) =>
  bnd (ld (.agg (.pair (.int .i64) (.pair (.int .i64) (.pair (.int .i64) .sl)))) p2) fun (v21 : (Int × (Int × (Int × Sl)))) =>
  bnd (ld (.agg (.pair (.int .i64) (.pair (.int .i64) (.pair (.int .i64) (.pair (.int .i64) (.pair (.int .i64) (.pair (.int .i64) (.pair (.int .i64) (.pair (.int .i64) (.pair (.int .i64) (.pair (.int .i64) (.pair (.int .i64) .sl)))))))))))) p3) fun (v22 : (Int × (Int × (Int × (Int × (Int × (Int × (Int × (Int × (Int × (Int × (Int × Sl)))))))))))) =>
  bnd (f28_bitblt_Copy v20 v21 v22) fun (r23 : ((Int × (Int × (Int × Sl))) × Int)) =>
  bnd (newC 24 [.int .i64 (0 : Int), .int .i64 (0 : Int), .int .i64 (0 : Int), .slice none 0 0]) fun (p24 : Addr) =>
  bnd (wrs p24 0 [.int .i64 r23.1.1, .int .i64 r23.1.2.1, .int .i64 r23.1.2.2.1, .slice r23.1.2.2.2.a r23.1.2.2.2.len r23.1.2.2.2.cap]) fun _ =>
  bnd (wrs (Addr.add p3 0) 0 [.int .i64 (3 : Int)]) fun _ =>
  bnd (ld (.agg (.pair (.int .i64) (.pair (.int .i64) (.pair (.int .i64) .sl)))) p1) fun (v25 : (Int × (Int × (Int × Sl)))) =>
  bnd (ld (.agg (.pair (.int .i64) (.pair (.int .i64) (.pair (.int .i64) .sl)))) p2) fun (v26 : (Int × (Int × (Int × Sl)))) =>
  bnd (ld (.agg (.pair (.int .i64) (.pair (.int .i64) (.pair (.int .i64) (.pair (.int .i64) (.pair (.int .i64) (.pair (.int .i64) (.pair (.int .i64) (.pair (.int .i64) (.pair (.int .i64) (.pair (.int .i64) (.pair (.int .i64) .sl)))))))))))) p3) fun (v27 : (Int × (Int × (Int × (Int × (Int × (Int × (Int × (Int × (Int × (Int × (Int × Sl)))))))))))) =>
  bnd (f28_bitblt_Copy v25 v26 v27) fun (r28 : ((Int × (Int × (Int × Sl))) × Int)) =>
  bnd (newC 24 [.int .i64 (0 : Int), .int .i64 (0 : Int), .int .i64 (0 : Int), .slice none 0 0]) fun (p29 : Addr) =>
  bnd (wrs p29 0 [.int .i64 r28.1.1, .int .i64 r28.1.2.1, .int .i64 r28.1.2.2.1, .slice r28.1.2.2.2.a r28.1.2.2.2.len r28.1.2.2.2.cap]) fun _ =>
  bnd (ld (.agg (.pair (.int .i64) (.pair (.int .i64) (.pair (.int .i64) .sl)))) p29) fun (v30 : (Int × (Int × (Int × Sl)))) =>
  bnd (ld (.agg (.pair (.int .i64) (.pair (.int .i64) (.pair (.int .i64) .sl)))) p2) fun (v31 : (Int × (Int × (Int × Sl)))) =>
  bnd (ld (.agg (.pair (.int .i64) (.pair (.int .i64) (.pair (.int .i64) (.pair (.int .i64) (.pair (.int .i64) (.pair (.int .i64) (.pair (.int .i64) (.pair (.int .i64) (.pair (.int .i64) (.pair (.int .i64) (.pair (.int .i64) .sl)))))))))))) p3) fun (v32 : (Int × (Int × (Int × (Int × (Int × (Int × (Int × (Int × (Int × (Int × (Int × Sl)))))))))))) =>
  bnd (f28_bitblt_Copy v30 v31 v32) fun (r33 : ((Int × (Int × (Int × Sl))) × Int)) =>
  bnd (newC 24 [.int .i64 (0 : Int), .int .i64 (0 : Int), .int .i64 (0 : Int), .slice none 0 0]) fun (p34 : Addr) =>
  bnd (wrs p34 0 [.int .i64 r33.1.1, .int .i64 r33.1.2.1, .int .i64 r33.1.2.2.1, .slice r33.1.2.2.2.a r33.1.2.2.2.len r33.1.2.2.2.cap]) fun _ =>
  bnd (wrs (Addr.add p3 0) 0 [.int .i64 (12 : Int)]) fun _ =>
  bnd (ld (.agg (.pair (.int .i64) (.pair (.int .i64) (.pair (.int .i64) .sl)))) p1) fun (v35 : (Int × (Int × (Int × Sl)))) =>
  bnd (ld (.agg (.pair (.int .i64) (.pair (.int .i64) (.pair (.int .i64) .sl)))) p2) fun (v36 : (Int × (Int × (Int × Sl)))) =>
  bnd (ld (.agg (.pair (.int .i64) (.pair (.int .i64) (.pair (.int .i64) (.pair (.int .i64) (.pair (.int .i64) (.pair (.int .i64) (.pair (.int .i64) (.pair (.int .i64) (.pair (.int .i64) (.pair (.int .i64) (.pair (.int .i64) .sl)))))))))))) p3) fun (v37 : (Int × (Int × (Int × (Int × (Int × (Int × (Int × (Int × (Int × (Int × (Int × Sl)))))))))))) =>
  bnd (f28_bitblt_Copy v35 v36 v37) fun (r38 : ((Int × (Int × (Int × Sl))) × Int)) =>
  bnd (newC 24 [.int .i64 (0 : Int), .int .i64 (0 : Int), .int .i64 (0 : Int), .slice none 0 0]) fun (p39 : Addr) =>
  bnd (wrs p39 0 [.int .i64 r38.1.1, .int .i64 r38.1.2.1, .int .i64 r38.1.2.2.1, .slice r38.1.2.2.2.a r38.1.2.2.2.len r38.1.2.2.2.cap]) fun _ =>
  bnd (wrs (Addr.add p3 0) 0 [.int .i64 (10 : Int)]) fun _ =>
  bnd (ld (.agg (.pair (.int .i64) (.pair (.int .i64) (.pair (.int .i64) .sl)))) p29) fun (v40 : (Int × (Int × (Int × Sl)))) =>
  bnd (ld (.agg (.pair (.int .i64) (.pair (.int .i64) (.pair (.int .i64) .sl)))) p2) fun (v41 : (Int × (Int × (Int × Sl)))) =>
  bnd (ld (.agg (.pair (.int .i64) (.pair (.int .i64) (.pair (.int .i64) (.pair (.int .i64) (.pair (.int .i64) (.pair (.int .i64) (.pair (.int .i64) (.pair (.int .i64) (.pair (.int .i64) (.pair (.int .i64) (.pair (.int .i64) .sl)))))))))))) p3) fun (v42 : (Int × (Int × (Int × (Int × (Int × (Int × (Int × (Int × (Int × (Int × (Int × Sl)))))))))))) =>
  bnd (f28_bitblt_Copy v40 v41 v42) fun (r43 : ((Int × (Int × (Int × Sl))) × Int)) =>
  bnd (newC 24 [.int .i64 (0 : Int), .int .i64 (0 : Int), .int .i64 (0 : Int), .slice none 0 0]) fun (p44 : Addr) =>
  bnd (wrs p44 0 [.int .i64 r43.1.1, .int .i64 r43.1.2.1, .int .i64 r43.1.2.2.1, .slice r43.1.2.2.2.a r43.1.2.2.2.len r43.1.2.2.2.cap]) fun _ =>
  bnd (wrs (Addr.add p3 0) 0 [.int .i64 (0 : Int)]) fun _ =>
  bnd (ld (.agg (.pair (.int .i64) (.pair (.int .i64) (.pair (.int .i64) .sl)))) p1) fun (v45 : (Int × (Int × (Int × Sl)))) =>
  bnd (ld (.agg (.pair (.int .i64) (.pair (.int .i64) (.pair (.int .i64) .sl)))) p2) fun (v46 : (Int × (Int × (Int × Sl)))) =>
  bnd (ld (.agg (.pair (.int .i64) (.pair (.int .i64) (.pair (.int .i64) (.pair (.int .i64) (.pair (.int .i64) (.pair (.int .i64) (.pair (.int .i64) (.pair (.int .i64) (.pair (.int .i64) (.pair (.int .i64) (.pair (.int .i64) .sl)))))))))))) p3) fun (v47 : (Int × (Int × (Int × (Int × (Int × (Int × (Int × (Int × (Int × (Int × (Int × Sl)))))))))))) =>
  bnd (f28_bitblt_Copy v45 v46 v47) fun (r48 : ((Int × (Int × (Int × Sl))) × Int)) =>
  bnd (newC 24 [.int .i64 (0 : Int), .int .i64 (0 : Int), .int .i64 (0 : Int), .slice none 0 0]) fun (p49 : Addr) =>
  bnd (wrs p49 0 [.int .i64 r48.1.1, .int .i64 r48.1.2.1, .int .i64 r48.1.2.2.1, .slice r48.1.2.2.2.a r48.1.2.2.2.len r48.1.2.2.2.cap]) fun _ =>
  bnd (ld (.agg (.pair (.int .i64) (.pair (.int .i64) (.pair (.int .i64) .sl)))) p29) fun (v50 : (Int × (Int × (Int × Sl)))) =>
  bnd (ld (.agg (.pair (.int .i64) (.pair (.int .i64) (.pair (.int .i64) .sl)))) p1) fun (v51 : (Int × (Int × (Int × Sl)))) =>
  bnd (ld (.agg (.pair (.int .i64) (.pair (.int .i64) (.pair (.int .i64) (.pair (.int .i64) (.pair (.int .i64) (.pair (.int .i64) (.pair (.int .i64) (.pair (.int .i64) (.pair (.int .i64) (.pair (.int .i64) (.pair (.int .i64) .sl)))))))))))) p3) fun (v52 : (Int × (Int × (Int × (Int × (Int × (Int × (Int × (Int × (Int × (Int × (Int × Sl)))))))))))) =>
  bnd (f28_bitblt_Copy v50 v51 v52) fun (r53 : ((Int × (Int × (Int × Sl))) × Int)) =>
  bnd (newC 24 [.int .i64 (0 : Int), .int .i64 (0 : Int), .int .i64 (0 : Int), .slice none 0 0]) fun (p54 : Addr) =>
  bnd (wrs p54 0 [.int .i64 r53.1.1, .int .i64 r53.1.2.1, .int .i64 r53.1.2.2.1, .slice r53.1.2.2.2.a r53.1.2.2.2.len r53.1.2.2.2.cap]) fun _ =>
  bnd (wrs (Addr.add p3 0) 0 [.int .i64 (15 : Int)]) fun _ =>
  bnd (ld (.agg (.pair (.int .i64) (.pair (.int .i64) (.pair (.int .i64) .sl)))) p49) fun (v55 : (Int × (Int × (Int × Sl)))) =>
  bnd (ld (.agg (.pair (.int .i64) (.pair (.int .i64) (.pair (.int .i64) .sl)))) p2) fun (v56 : (Int × (Int × (Int × Sl)))) =>
  bnd (ld (.agg (.pair (.int .i64) (.pair (.int .i64) (.pair (.int .i64) (.pair (.int .i64) (.pair (.int .i64) (.pair (.int .i64) (.pair (.int .i64) (.pair (.int .i64) (.pair (.int .i64) (.pair (.int .i64) (.pair (.int .i64) .sl)))))))))))) p3) fun (v57 : (Int × (Int × (Int × (Int × (Int × (Int × (Int × (Int × (Int × (Int × (Int × Sl)))))))))))) =>
  bnd (f28_bitblt_Copy v55 v56 v57) fun (r58 : ((Int × (Int × (Int × Sl))) × Int)) =>
  bnd (newC 24 [.int .i64 (0 : Int), .int .i64 (0 : Int), .int .i64 (0 : Int), .slice none 0 0]) fun (p59 : Addr) =>
  bnd (wrs p59 0 [.int .i64 r58.1.1, .int .i64 r58.1.2.1, .int .i64 r58.1.2.2.1, .slice r58.1.2.2.2.a r58.1.2.2.2.len r58.1.2.2.2.cap]) fun _ =>
  bnd (ld (.agg (.pair (.int .i64) (.pair (.int .i64) (.pair (.int .i64) .sl)))) p1) fun (v60 : (Int × (Int × (Int × Sl)))) =>
  bnd (ld (.agg (.pair (.int .i64) (.pair (.int .i64) (.pair (.int .i64) .sl)))) p2) fun (v61 : (Int × (Int × (Int × Sl)))) =>
  bnd (ld (.agg (.pair (.int .i64) (.pair (.int .i64) (.pair (.int .i64) (.pair (.int .i64) (.pair (.int .i64) (.pair (.int .i64) (.pair (.int .i64) (.pair (.int .i64) (.pair (.int .i64) (.pair (.int .i64) (.pair (.int .i64) .sl)))))))))))) p3) fun (v62 : (Int × (Int × (Int × (Int × (Int × (Int × (Int × (Int × (Int × (Int × (Int × Sl)))))))))))) =>
  bnd (f28_bitblt_Copy v60 v61 v62) fun (r63 : ((Int × (Int × (Int × Sl))) × Int)) =>
  bnd (newC 24 [.int .i64 (0 : Int), .int .i64 (0 : Int), .int .i64 (0 : Int), .slice none 0 0]) fun (p64 : Addr) =>
  bnd (wrs p64 0 [.int .i64 r63.1.1, .int .i64 r63.1.2.1, .int .i64 r63.1.2.2.1, .slice r63.1.2.2.2.a r63.1.2.2.2.len r63.1.2.2.2.cap]) fun _ =>
  bnd (ld (.agg (.pair (.int .i64) (.pair (.int .i64) (.pair (.int .i64) .sl)))) p12) fun (v65 : (Int × (Int × (Int × Sl)))) =>
  bnd (ld (.agg (.pair (.int .i64) (.pair (.int .i64) (.pair (.int .i64) .sl)))) p1) fun (v66 : (Int × (Int × (Int × Sl)))) =>
  bnd (f12_palaverlaw11_same v65 v66) fun (r67 : Bool) =>
  bnd (ld (.agg (.pair (.int .i64) (.pair (.int .i64) (.pair (.int .i64) .sl)))) p24) fun (v68 : (Int × (Int × (Int × Sl)))) =>
  bnd (ld (.agg (.pair (.int .i64) (.pair (.int .i64) (.pair (.int .i64) .sl)))) p1) fun (v69 : (Int × (Int × (Int × Sl)))) =>
  bnd (f12_palaverlaw11_same v68 v69) fun (r70 : Bool) =>
  bnd (ld (.agg (.pair (.int .i64) (.pair (.int .i64) (.pair (.int .i64) .sl)))) p34) fun (v71 : (Int × (Int × (Int × Sl)))) =>
  bnd (ld (.agg (.pair (.int .i64) (.pair (.int .i64) (.pair (.int .i64) .sl)))) p29) fun (v72 : (Int × (Int × (Int × Sl)))) =>
  bnd (f12_palaverlaw11_same v71 v72) fun (r73 : Bool) =>
  bnd (ld (.agg (.pair (.int .i64) (.pair (.int .i64) (.pair (.int .i64) .sl)))) p44) fun (v74 : (Int × (Int × (Int × Sl)))) =>
  bnd (ld (.agg (.pair (.int .i64) (.pair (.int .i64) (.pair (.int .i64) .sl)))) p39) fun (v75 : (Int × (Int × (Int × Sl)))) =>
  bnd (f12_palaverlaw11_same v74 v75) fun (r76 : Bool) =>
  bnd (ld (.agg (.pair (.int .i64) (.pair (.int .i64) (.pair (.int .i64) .sl)))) p59) fun (v77 : (Int × (Int × (Int × Sl)))) =>
  bnd (ld (.agg (.pair (.int .i64) (.pair (.int .i64) (.pair (.int .i64) .sl)))) p64) fun (v78 : (Int × (Int × (Int × Sl)))) =>
  bnd (f12_palaverlaw11_same v77 v78) fun (r79 : Bool) =>
  bnd (ld (.agg (.pair (.int .i64) (.pair (.int .i64) (.pair (.int .i64) .sl)))) p49) fun (v80 : (Int × (Int × (Int × Sl)))) =>
  bnd (ld (.agg (.pair (.int .i64) (.pair (.int .i64) (.pair (.int .i64) .sl)))) p54) fun (v81 : (Int × (Int × (Int × Sl)))) =>
  bnd (f12_palaverlaw11_same v80 v81) fun (r82 : Bool) =>
  bnd (
  cnd r82 (
  ret true) (
  bnd (ld (.int .i64) (Addr.add p1 0)) fun (v83 : Int) =>
  bnd (ld (.int .i64) (Addr.add p2 0)) fun (v84 : Int) =>
  ret (v83 != v84))) fun (b85 : Bool) =>
  bnd (
  cnd b85 (
  ret true) (
  bnd (ld (.int .i64) (Addr.add p1 1)) fun (v86 : Int) =>
  bnd (ld (.int .i64) (Addr.add p2 1)) fun (v87 : Int) =>
  ret (v86 != v87))) fun (b88 : Bool) =>
  ret (cond (cond (cond (cond (cond (cond r4 r67 false) r70 false) r73 false) r76 false) r79 false) b88 false)))
noncomputable def Af6_palaverlaw11_BitRules : Ann := (.two .nil (.two .nil (.two .nil (.two (.two .nil (.two (.two .nil .nil) .nil)) (.two .nil (.two .nil (.two .nil (.two (.two .nil (.two (.two .nil .nil) .nil)) (.two .nil (.two .nil (.two .nil (.two .nil (.two .nil (.two .nil (.two .nil (.two .nil (.two .nil (.two .nil (.two .nil (.two .nil (.two .nil (.two .nil (.two .nil (.two .nil (.two .nil (.two .nil (.two .nil (.two .nil (.two .nil (.two .nil (.two .nil .nil)))))))))))))))))))))))))))))))
theorem Cf6_palaverlaw11_BitRules_ok : Cf6_palaverlaw11_BitRules.Ok := mkC_ok mixed tysOk zerosOk eqsOk ⟨Sf8_palaverlaw11_works, Sf9_palaverlaw11_far, Sf12_palaverlaw11_same, Sf28_bitblt_Copy, trivial⟩ trivial
theorem Ef6_palaverlaw11_BitRules (x : ((Int × (Int × (Int × Sl))) × ((Int × (Int × (Int × Sl))) × (Int × (Int × (Int × (Int × (Int × (Int × (Int × (Int × (Int × (Int × (Int × Sl)))))))))))))) : evF Cf6_palaverlaw11_BitRules Try.f6 188 (.pair (.agg (.pair (.int .i64) (.pair (.int .i64) (.pair (.int .i64) .sl)))) (.pair (.agg (.pair (.int .i64) (.pair (.int .i64) (.pair (.int .i64) .sl)))) (.agg (.pair (.int .i64) (.pair (.int .i64) (.pair (.int .i64) (.pair (.int .i64) (.pair (.int .i64) (.pair (.int .i64) (.pair (.int .i64) (.pair (.int .i64) (.pair (.int .i64) (.pair (.int .i64) (.pair (.int .i64) .sl)))))))))))))) .bool Af6_palaverlaw11_BitRules x = f6_palaverlaw11_BitRules x.1 x.2.1 x.2.2 := by kernel_rfl
theorem Sf6_palaverlaw11_BitRules : SoundF Try.prog 6 ⟨(.pair (.agg (.pair (.int .i64) (.pair (.int .i64) (.pair (.int .i64) .sl)))) (.pair (.agg (.pair (.int .i64) (.pair (.int .i64) (.pair (.int .i64) .sl)))) (.agg (.pair (.int .i64) (.pair (.int .i64) (.pair (.int .i64) (.pair (.int .i64) (.pair (.int .i64) (.pair (.int .i64) (.pair (.int .i64) (.pair (.int .i64) (.pair (.int .i64) (.pair (.int .i64) (.pair (.int .i64) .sl)))))))))))))), .bool, fun x => f6_palaverlaw11_BitRules x.1 x.2.1 x.2.2⟩ :=
  soundF_of Cf6_palaverlaw11_BitRules_ok Try.func6 (by kernel_rfl) (by kernel_rfl) Ef6_palaverlaw11_BitRules
noncomputable def Cf7_palaverlaw11_BitMoves : Ctx := mkC Try.prog tys zeros eqs [(8, ⟨.unit, .bool, fun _ => f8_palaverlaw11_works⟩), (9, ⟨(.pair (.agg (.pair (.int .i64) (.pair (.int .i64) (.pair (.int .i64) .sl)))) (.agg (.pair (.int .i64) (.pair (.int .i64) (.pair (.int .i64) .sl))))), .bool, fun x => f9_palaverlaw11_far x.1 x.2⟩), (12, ⟨(.pair (.agg (.pair (.int .i64) (.pair (.int .i64) (.pair (.int .i64) .sl)))) (.agg (.pair (.int .i64) (.pair (.int .i64) (.pair (.int .i64) .sl))))), .bool, fun x => f12_palaverlaw11_same x.1 x.2⟩), (13, ⟨.sl, .sl, fun x => f13_palaverref00_LentBits x⟩), (28, ⟨(.pair (.agg (.pair (.int .i64) (.pair (.int .i64) (.pair (.int .i64) .sl)))) (.pair (.agg (.pair (.int .i64) (.pair (.int .i64) (.pair (.int .i64) .sl)))) (.agg (.pair (.int .i64) (.pair (.int .i64) (.pair (.int .i64) (.pair (.int .i64) (.pair (.int .i64) (.pair (.int .i64) (.pair (.int .i64) (.pair (.int .i64) (.pair (.int .i64) (.pair (.int .i64) (.pair (.int .i64) .sl)))))))))))))), (.tup (.pair (.agg (.pair (.int .i64) (.pair (.int .i64) (.pair (.int .i64) .sl)))) (.int .i64))), fun x => f28_bitblt_Copy x.1 x.2.1 x.2.2⟩), (30, ⟨(.pair (.agg (.pair (.int .i64) (.pair (.int .i64) (.pair (.int .i64) .sl)))) (.agg (.pair (.int .i64) (.pair (.int .i64) (.pair (.int .i64) (.pair (.int .i64) (.pair (.int .i64) (.pair (.int .i64) (.pair (.int .i64) (.pair (.int .i64) (.pair (.int .i64) (.pair (.int .i64) (.pair (.int .i64) .sl))))))))))))), (.tup (.pair (.agg (.pair (.int .i64) (.pair (.int .i64) (.pair (.int .i64) .sl)))) (.int .i64))), fun x => f30_bitblt_Move x.1 x.2⟩)] []
/-- palaverpalaverlaw11.BitMoves -/
noncomputable def f7_palaverlaw11_BitMoves (x0 : (Int × (Int × (Int × Sl)))) (x1 : (Int × (Int × (Int × (Int × (Int × (Int × (Int × (Int × (Int × (Int × (Int × Sl)))))))))))) : M Bool :=
  bnd (newC 24 [.int .i64 x0.1, .int .i64 x0.2.1, .int .i64 x0.2.2.1, .slice x0.2.2.2.a x0.2.2.2.len x0.2.2.2.cap]) fun (p1 : Addr) =>
  bnd (newC 52 [.int .i64 x1.1, .int .i64 x1.2.1, .int .i64 x1.2.2.1, .int .i64 x1.2.2.2.1, .int .i64 x1.2.2.2.2.1, .int .i64 x1.2.2.2.2.2.1, .int .i64 x1.2.2.2.2.2.2.1, .int .i64 x1.2.2.2.2.2.2.2.1, .int .i64 x1.2.2.2.2.2.2.2.2.1, .int .i64 x1.2.2.2.2.2.2.2.2.2.1, .int .i64 x1.2.2.2.2.2.2.2.2.2.2.1, .slice x1.2.2.2.2.2.2.2.2.2.2.2.a x1.2.2.2.2.2.2.2.2.2.2.2.len x1.2.2.2.2.2.2.2.2.2.2.2.cap]) fun (p2 : Addr) =>
  bnd f8_palaverlaw11_works fun (r3 : Bool) =>
  bnd (ld (.agg (.pair (.int .i64) (.pair (.int .i64) (.pair (.int .i64) .sl)))) p1) fun (v4 : (Int × (Int × (Int × Sl)))) =>
  bnd (ld (.agg (.pair (.int .i64) (.pair (.int .i64) (.pair (.int .i64) .sl)))) p1) fun (v5 : (Int × (Int × (Int × Sl)))) =>
  bnd (f9_palaverlaw11_far v4 v5) fun (r6 : Bool) =>
  cnd r6 (
  ret r3) (
  bnd (ld (.agg (.pair (.int .i64) (.pair (.int .i64) (.pair (.int .i64) .sl)))) p1) fun (v7 : (Int × (Int × (Int × Sl)))) =>
  bnd (newC 24 [.int .i64 (0 : Int), .int .i64 (0 : Int), .int .i64 (0 : Int), .slice none 0 0]) fun (p8 : Addr) =>
  bnd (wrs p8 0 [.int .i64 v7.1, .int .i64 v7.2.1, .int .i64 v7.2.2.1, .slice v7.2.2.2.a v7.2.2.2.len v7.2.2.2.cap]) fun _ =>
  bnd (ld .sl (Addr.add p1 3)) fun (v9 : Sl) =>
  bnd (f13_palaverref00_LentBits v9) fun (r10 : Sl) =>
  bnd (wrs (Addr.add p8 3) 0 [.slice r10.a r10.len r10.cap]) fun _ =>
  bnd (ld (.agg (.pair (.int .i64) (.pair (.int .i64) (.pair (.int .i64) .sl)))) p1) fun (v11 : (Int × (Int × (Int × Sl)))) =>
  bnd (ld (.agg (.pair (.int .i64) (.pair (.int .i64) (.pair (.int .i64) (.pair (.int .i64) (.pair (.int .i64) (.pair (.int .i64) (.pair (.int .i64) (.pair (.int .i64) (.pair (.int .i64) (.pair (.int .i64) (.pair (.int .i64) .sl)))))))))))) p2) fun (v12 : (Int × (Int × (Int × (Int × (Int × (Int × (Int × (Int × (Int × (Int × (Int × Sl)))))))))))) =>
  bnd (f30_bitblt_Move v11 v12) fun (r13 : ((Int × (Int × (Int × Sl))) × Int)) =>
  bnd (newC 24 [.int .i64 (0 : Int), .int .i64 (0 : Int), .int .i64 (0 : Int), .slice none 0 0]) fun (p14 : Addr) =>
  bnd (wrs p14 0 [.int .i64 r13.1.1, .int .i64 r13.1.2.1, .int .i64 r13.1.2.2.1, .slice r13.1.2.2.2.a r13.1.2.2.2.len r13.1.2.2.2.cap]) fun _ =>
  bnd (ld (.agg (.pair (.int .i64) (.pair (.int .i64) (.pair (.int .i64) .sl)))) p1) fun (v15 : (Int × (Int × (Int × Sl)))) =>
  bnd (ld (.agg (.pair (.int .i64) (.pair (.int .i64) (.pair (.int .i64) .sl)))) p8) fun (v16 : (Int × (Int × (Int × Sl)))) =>
  bnd (ld (.agg (.pair (.int .i64) (.pair (.int .i64) (.pair (.int .i64) (.pair (.int .i64) (.pair (.int .i64) (.pair (.int .i64) (.pair (.int .i64) (.pair (.int .i64) (.pair (.int .i64) (.pair (.int .i64) (.pair (.int .i64) .sl)))))))))))) p2) fun (v17 : (Int × (Int × (Int × (Int × (Int × (Int × (Int × (Int × (Int × (Int × (Int × Sl)))))))))))) =>
  bnd (f28_bitblt_Copy v15 v16 v17) fun (r18 : ((Int × (Int × (Int × Sl))) × Int)) =>
  bnd (newC 24 [.int .i64 (0 : Int), .int .i64 (0 : Int), .int .i64 (0 : Int), .slice none 0 0]) fun (p19 : Addr) =>
  bnd (wrs p19 0 [.int .i64 r18.1.1, .int .i64 r18.1.2.1, .int .i64 r18.1.2.2.1, .slice r18.1.2.2.2.a r18.1.2.2.2.len r18.1.2.2.2.cap]) fun _ =>
  bnd (ld (.agg (.pair (.int .i64) (.pair (.int .i64) (.pair (.int .i64) .sl)))) p14) fun (v20 : (Int × (Int × (Int × Sl)))) =>
  bnd (ld (.agg (.pair (.int .i64) (.pair (.int .i64) (.pair (.int .i64) .sl)))) p19) fun (v21 : (Int × (Int × (Int × Sl)))) =>
  bnd (f12_palaverlaw11_same v20 v21) fun (r22 : Bool) =>
  ret (cond (cond r3 r22 false) (r13.2 == r18.2) false))
noncomputable def Af7_palaverlaw11_BitMoves : Ann := (.two .nil (.two .nil (.two .nil (.two (.two .nil (.two (.two .nil .nil) .nil)) (.two .nil (.two .nil (.two .nil (.two .nil (.two .nil (.two .nil .nil))))))))))
theorem Cf7_palaverlaw11_BitMoves_ok : Cf7_palaverlaw11_BitMoves.Ok := mkC_ok mixed tysOk zerosOk eqsOk ⟨Sf8_palaverlaw11_works, Sf9_palaverlaw11_far, Sf12_palaverlaw11_same, Sf13_palaverref00_LentBits, Sf28_bitblt_Copy, Sf30_bitblt_Move, trivial⟩ trivial
theorem Ef7_palaverlaw11_BitMoves (x : ((Int × (Int × (Int × Sl))) × (Int × (Int × (Int × (Int × (Int × (Int × (Int × (Int × (Int × (Int × (Int × Sl))))))))))))) : evF Cf7_palaverlaw11_BitMoves Try.f7 49 (.pair (.agg (.pair (.int .i64) (.pair (.int .i64) (.pair (.int .i64) .sl)))) (.agg (.pair (.int .i64) (.pair (.int .i64) (.pair (.int .i64) (.pair (.int .i64) (.pair (.int .i64) (.pair (.int .i64) (.pair (.int .i64) (.pair (.int .i64) (.pair (.int .i64) (.pair (.int .i64) (.pair (.int .i64) .sl))))))))))))) .bool Af7_palaverlaw11_BitMoves x = f7_palaverlaw11_BitMoves x.1 x.2 := by kernel_rfl
theorem Sf7_palaverlaw11_BitMoves : SoundF Try.prog 7 ⟨(.pair (.agg (.pair (.int .i64) (.pair (.int .i64) (.pair (.int .i64) .sl)))) (.agg (.pair (.int .i64) (.pair (.int .i64) (.pair (.int .i64) (.pair (.int .i64) (.pair (.int .i64) (.pair (.int .i64) (.pair (.int .i64) (.pair (.int .i64) (.pair (.int .i64) (.pair (.int .i64) (.pair (.int .i64) .sl))))))))))))), .bool, fun x => f7_palaverlaw11_BitMoves x.1 x.2⟩ :=
  soundF_of Cf7_palaverlaw11_BitMoves_ok Try.func7 (by kernel_rfl) (by kernel_rfl) Ef7_palaverlaw11_BitMoves
end Go.Proofs.Ytpgalllceejpnaa
