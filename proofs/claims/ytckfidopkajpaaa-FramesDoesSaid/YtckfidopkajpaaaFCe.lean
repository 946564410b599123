/-
  Parts of the proof: FCc, FCd, FCe. It states what the functions do; no further condition.
-/
import Derived.Test.YtckfidopkajpaaaFCb
set_option linter.unusedVariables false
set_option linter.unusedSimpArgs false
/-
  Two heaps of typed things side by side.
-/
namespace Go.Sh
set_option linter.unusedVariables false
open Go.RowKit
variable {O O2 : Type} {en : O → List Value} {en2 : O2 → List Value} {w0 w w' : World} {T0 T T' : Nat → Option O} {U U' : Nat → Option O2}
/-- Beside a heap: another one, all newer than the beginning. -/
structure Side (en2 : O2 → List Value) (w0 w : World) (T : Nat → Option O) (U : Nat → Option O2) : Prop where
  th : Th en2 w U
  off : ∀ b, U b ≠ none → T b = none
  new : ∀ b, U b ≠ none → w0.heap.size ≤ b
theorem Side.none (w0 w : World) (T : Nat → Option O) : Side en2 w0 w T (fun _ => Option.none) := ⟨fun b o h => (by cases h), fun b h => absurd rfl h, fun b h => absurd rfl h⟩
/-- The first one goes on. -/
theorem Side.step (h : Side en2 w0 w T U) (C : Tr en w T w' T') : Side en2 w0 w' T' U := by
  have hlt : ∀ b, U b ≠ Option.none → b < w.heap.size := fun b hb => by
    cases hu : U b with
    | none => exact absurd hu hb
    | some o => exact h.th.lt hu
  refine ⟨fun b o hb => ?_, fun b hb => ?_, h.new⟩
  · have hn : U b ≠ Option.none := by rw [hb]; simp
    have hk := C.keep.block b (hlt b hn) (by simpa using h.off b hn)
    obtain ⟨g1, g2⟩ := h.th b o hb
    exact ⟨(blk_of hk).trans g1, by unfold cln; rw [hk]; exact g2⟩
  · cases hT : T' b with
    | none => rfl
    | some o =>
      rcases C.new b (by rw [hT]; simp) with h' | h'
      · exact absurd (h.off b hb) h'
      · have := hlt b hb; omega
/-- The other one goes on. -/
theorem Side.turn (h : Side en2 w0 w T U) (C : Tr en w0 T0 w T) (D : Tr en2 w U w' U') : Tr en w0 T0 w' T ∧ Side en2 w0 w' T U' := by
  have hsz := D.keep.size
  have hTU : ∀ b, T b ≠ Option.none → U b = Option.none := fun b hb => by
    cases hu : U b with
    | none => rfl
    | some o => exact absurd (h.off b (by rw [hu]; simp)) hb
  refine ⟨⟨fun b o hb => ?_, C.keep.trans D.keep (fun b hb => .inr (h.new b hb)), C.new⟩, D.th, fun b hb => ?_, fun b hb => ?_⟩
  · have hlt := C.th.lt hb
    have hk := D.keep.block b hlt (by simpa using hTU b (by rw [hb]; simp))
    obtain ⟨g1, g2⟩ := C.th b o hb
    exact ⟨(blk_of hk).trans g1, by unfold cln; rw [hk]; exact g2⟩
  · rcases D.new b hb with h' | h'
    · exact h.off b h'
    · cases hT : T b with
      | none => rfl
      | some o => have := C.th.lt hT; omega
  · rcases D.new b hb with h' | h'
    · exact h.new b h'
    · have := C.keep.size; omega
/-- A call on the other one. -/
theorem Bes.beside {b : Nat} {o : Obj} (h : Bes w0 w T b o) (hU : U b = Option.none) (D : Tr en2 w U w' U') : Bes w0 w' T b o ∧ U' b = Option.none := by
  have hlt := h.lt
  refine ⟨⟨(D.keep.block b hlt (by simpa using hU)).trans h.at_, h.off, h.new⟩, ?_⟩
  cases hT : U' b with
  | none => rfl
  | some o' =>
    rcases D.new b (by rw [hT]; simp) with h' | h'
    · exact absurd hU h'
    · omega
/-- Something that lies there turned: the other one does not mind. -/
theorem Side.putObj (h : Side en2 w0 w T U) {b : Nat} (hU : U b = Option.none) (o : Obj) : Side en2 w0 (w.putObj b o) T U := by
  refine ⟨fun c p hc => ?_, h.off, h.new⟩
  have hne : c ≠ b := by rintro rfl; rw [hU] at hc; cases hc
  have hk := World.putObj_heap_other (w := w) (o := o) hne
  obtain ⟨g1, g2⟩ := h.th c p hc
  exact ⟨(blk_of hk).trans g1, by unfold cln; rw [hk]; exact g2⟩
end Go.Sh

/-
  Unwind.
-/
namespace Go.Proofs.Ytckfidopkajpaaa
set_option linter.unusedVariables false
open Go.Sh Go.RowKit
set_option maxRecDepth 100000
variable {w : World} {T : Hp} {sb : Nat} {S : Sk} {A : St} {G : Gh}
/-- Those that are gone are held beside the stack. -/
structure UJ (w : World) (T : Hp) (sb : Nat) (S : Sk) (A : St) (G : Gh) (p3 p8 d D : Nat) (w' : World) (T' : Hp) (cx' : Nat → Option Nat) (U : Hp) (s : Sl) (gl l : List Nat) (o1 : Obj) : Prop where
  tr : Tr en w T w' T'
  ext : ∀ k b, G.cx k = some b → cx' k = some b
  inv : Inv T' sb S A { G with cx := cx' }
  sd : Side en w w' T' U
  u3 : U p3 = some (.cellv (.pointer (pt (some d))))
  u8 : U p8 = some (.cellv (slV s))
  rw_ : Rw U Ob.named s (gl.map some)
  len : l.length = gl.length
  gone : ∀ (n : Nat) (i : Nat) (b : Nat), l[n]? = some i → gl[n]? = some b → cx' i = some b
  bD : Bes w w' T' D (.deferred (some []))
  oD : U D = none
  bR : Bes w w' T' (D + 1) o1
  oR : U (D + 1) = none
section
variable {p3 p8 d D : Nat} {w1 w2 : World} {T1 T2 : Hp} {cx1 : Nat → Option Nat} {U U2 : Hp} {s s2 : Sl} {gl l gl2 : List Nat} {o1 : Obj}
theorem UJ.tstep (h : UJ w T sb S A G p3 p8 d D w1 T1 cx1 U s gl l o1) (C : Tr en w1 T1 w2 T2) {cx2 : Nat → Option Nat} (hx : ∀ k b, cx1 k = some b → cx2 k = some b) (I : Inv T2 sb S A { G with cx := cx2 }) : UJ w T sb S A G p3 p8 d D w2 T2 cx2 U s gl l o1 :=
  ⟨h.tr.trans C, fun k b hk => hx _ _ (h.ext k b hk), I, h.sd.step C, h.u3, h.u8, h.rw_, h.len, fun n i b h1 h2 => hx _ _ (h.gone n i b h1 h2), h.bD.step C, h.oD, h.bR.step C, h.oR⟩
theorem UJ.ustep (h : UJ w T sb S A G p3 p8 d D w1 T1 cx1 U s gl l o1) (C : Tr en w1 U w2 U2) {l2 : List Nat} (u3 : U2 p3 = some (.cellv (.pointer (pt (some d))))) (u8 : U2 p8 = some (.cellv (slV s2))) (hr : Rw U2 Ob.named s2 (gl2.map some)) (hl : l2.length = gl2.length) (hg : ∀ (n : Nat) (i : Nat) (b : Nat), l2[n]? = some i → gl2[n]? = some b → cx1 i = some b) :
    UJ w T sb S A G p3 p8 d D w2 T1 cx1 U2 s2 gl2 l2 o1 := by
  obtain ⟨t, sd⟩ := h.sd.turn h.tr C
  obtain ⟨b, o⟩ := h.bD.beside h.oD C
  obtain ⟨b', o'⟩ := h.bR.beside h.oR C
  exact ⟨t, h.ext, h.inv, sd, u3, u8, hr, hl, hg, b, o, b', o'⟩
theorem UJ.obj (h : UJ w T sb S A G p3 p8 d D w1 T1 cx1 U s gl l o1) {o2 : Obj} (ht : Tr en w T w2 T1) (hb : Bes w w2 T1 (D + 1) o2) (hk : ∀ o, Bes w w1 T1 D o → Bes w w2 T1 D o) (hw : ∃ o, w2 = w1.putObj (D + 1) o) : UJ w T sb S A G p3 p8 d D w2 T1 cx1 U s gl l o2 := by
  obtain ⟨o, rfl⟩ := hw
  exact ⟨ht, h.ext, h.inv, h.sd.putObj h.oR o, h.u3, h.u8, h.rw_, h.len, h.gone, hk _ h.bD, h.oD, hb, h.oR⟩
theorem UJ.rfl_ (h : UJ w T sb S A G p3 p8 d D w1 T1 cx1 U s gl l o1) : Tr en w1 U w1 U := Tr.refl h.sd.th
end
/-- All of a path ended, one behind the other. -/
theorem foldl_die_alive {A : St} : ∀ (l : List Nat) (k : Nat), k ∉ l → (l.foldl St.die A).alive k = A.alive k := by
  intro l
  induction l generalizing A with
  | nil => intro k _; rfl
  | cons x l ih =>
    intro k hk
    rw [List.foldl_cons, ih k (fun h => hk (List.mem_cons_of_mem _ h)), die_alive_ne (fun e => hk (by rw [e]; exact List.mem_cons_self ..))]
theorem foldl_fit0 {A : St} (h : A.Fit0) : ∀ l : List Nat, (l.foldl St.die A).Fit0 := by
  intro l
  induction l generalizing A with
  | nil => exact h
  | cons x l ih => exact ih (h.die x)
theorem row_nodup {A : St} (h : ∀ i, Acc (fun j i => A.eff i = some j) i) {i k : Nat} {l : List Nat} (hr : A.Row i l k) : l.Nodup ∧ ∀ x ∈ l, ∃ L, A.Row i L x := by
  induction hr with
  | one i => exact ⟨by simp, by simp only [List.mem_singleton]; rintro x rfl; exact ⟨_, .one _⟩⟩
  | @next i j k l h1 h2 ih =>
    refine ⟨List.nodup_cons.2 ⟨fun hm => ?_, ih.1⟩, fun x hx => ?_⟩
    · obtain ⟨L, hL⟩ := ih.2 i hm
      exact row_acy h _ _ _ h1 hL
    · rcases List.mem_cons.1 hx with rfl | hx
      · exact ⟨_, .one _⟩
      · obtain ⟨L, hL⟩ := ih.2 x hx
        exact ⟨_, .next h1 hL⟩
theorem row_last {A : St} {i k : Nat} {l : List Nat} (hr : A.Row i l k) : ∀ x ∈ l, ∃ L, A.Row x L k := by
  induction hr with
  | one i => simp only [List.mem_singleton]; rintro x rfl; exact ⟨_, .one _⟩
  | next h1 h2 ih =>
    intro x hx
    rcases List.mem_cons.1 hx with rfl | hx
    · exact ⟨_, .next h1 h2⟩
    · exact ih x hx
theorem row_alive {A : St} {i k : Nat} {l : List Nat} (hr : A.Row i l k) (hi : A.alive i = true) : ∀ x ∈ l, A.alive x = true := by
  induction hr with
  | one i => simp only [List.mem_singleton]; rintro x rfl; exact hi
  | next h1 h2 ih =>
    intro x hx
    rcases List.mem_cons.1 hx with rfl | hx
    · exact hi
    · exact ih (eff_alive h1) x hx
/-- Nobody is active, and the record says so. -/
theorem idle_spec (h : Th en w T) (I : Inv T sb S A G) : Sp (f36_frames_Stack_activate (pt (some sb)) (pt none)) w T fun _ _ T' => ∃ S', Inv T' sb S' A G ∧ Acv S' A G none := activate_none h I
theorem nodup_living : ∀ (l : List Nat) (A : St), l.Nodup → (∀ x ∈ l, A.alive x = true) → l.length ≤ A.living := by
  intro l
  induction l with
  | nil => intro A _ _; exact Nat.zero_le _
  | cons x l ih =>
    intro A hn ha
    obtain ⟨h1, h2⟩ := List.nodup_cons.1 hn
    obtain ⟨a, h3, h4⟩ := alive_lt (ha x (List.mem_cons_self ..))
    have h5 := die_living h3 h4
    have := ih (A.die x) h2 fun y hy => by
      rw [die_alive_ne (fun e => h1 (by rw [← e]; exact hy))]
      exact ha y (List.mem_cons_of_mem _ hy)
    rw [List.length_cons]; omega
/-- All that are held beside the stack end, one behind the other. -/
theorem unw_loop {U : Hp} {s : Sl} {gl L : List Nat} {D : Nat} (hf : A.Fit0) {c7 to : Option Nat} (hr : Rw U Ob.named s (gl.map some)) (hl : L.length = gl.length) (hsm : L.length ≤ 65536) (hg : ∀ (n : Nat) (i : Nat) (b : Nat), L[n]? = some i → gl[n]? = some b → G.cx i = some b)
    (hnd : L.Nodup) (hal : ∀ x ∈ L, A.alive x = true) (hc7 : Cn G.cx c7 to) (hto : ∀ j, to = some j → j ∉ L ∧ A.alive j = true) (v : Int) :
    ∀ (m j : Nat), L.length - j = m → j ≤ L.length → ∀ (w1 : World) (T1 : Hp) (S1 : Sk) (G1 : Gh), Tr en w T w1 T1 → Side en w w1 T1 U → Bes w w1 T1 D (.deferred (some [])) → Inv T1 sb S1 ((L.take j).foldl St.die A) G1 → (∀ k b, G.cx k = some b → G1.cx k = some b) → Acv S1 ((L.take j).foldl St.die A) G1 none →
      Ok (loopM (fun (s28 : Int) =>
  cnd (decide (s28 < (s.len : Int))) (
  bnd (ix 1 s s28) fun (p29 : Addr) =>
  bnd (ld .ptr p29) fun (v30 : Option Addr) =>
  bnd (f38_frames_Stack_end (pt (some sb)) v30) fun (r31 : Unit) =>
  ret (Sum.inl (IntKind.wrap .i64 (s28 + (1 : Int))))) (
  bnd (
  bnd (f39_frames_Stack_back (pt (some sb)) (pt c7) v) fun (r32 : Int) =>
  bnd (takeM Try.prog D) fun _ =>
  ret r32) fun r33 =>
  ret (Sum.inr r33))) (j : Int)) w1 fun r w' => ∃ T', Tr en w T w' T' ∧ r = ((L.foldl St.die A).back to v).1 ∧ Hs T' sb ((L.foldl St.die A).back to v).2 := by
  have hlen : s.len = gl.length := by rw [hr.len]; simp
  intro m
  induction m with
  | zero =>
    intro j hm hj w1 T1 S1 G1 C sd bD I hx hA
    have hjl : j = L.length := by omega
    subst hjl
    rw [loopM_eq, ok_bnd]
    refine ok_false (by simp; omega) ?_
    rw [List.take_length] at I hA
    refine ok_bnd.2 (ok_bnd.2 (ok_mono (back_spec C.th (foldl_fit0 hf L) I (c := c7) (to := to) ?_ ?_ v) ?_))
    · cases to with
      | none => exact hc7
      | some j => obtain ⟨b, h1, h2⟩ := hc7; exact ⟨b, h1, hx _ _ h2⟩
    · intro j hj
      obtain ⟨h1, h2⟩ := hto j hj
      rw [foldl_die_alive L j h1]; exact h2
    · rintro _ w2 ⟨T2, C2, rfl, hs⟩
      refine ok_take (C.trans C2) (bD.step C2) fun w3 C3 => ?_
      exact ok_ret.2 (ok_ret.2 (ok_ret.2 ⟨T2, C3, rfl, hs⟩))
  | succ m ih =>
    intro j hm hj w1 T1 S1 G1 C sd bD I hx hA
    have hjl : j < L.length := by omega
    have hjg : j < gl.length := by omega
    rw [loopM_eq, ok_bnd]
    refine ok_true (by simp; omega) ?_
    obtain ⟨b, L', ha, hb, hL', ht⟩ := hr.blk (by simp; omega)
    refine ok_ixN ha (by omega) (by omega) ?_
    have hj2 : L'[j]? = some (some gl[j]) := by
      have : (L'.take (gl.map some).length)[j]? = L'[j]? := by rw [List.getElem?_take_of_lt (by simp; omega)]
      rw [← this, ht, List.getElem?_map, List.getElem?_eq_getElem hjg]; rfl
    refine ok_tld0 (Tr.refl sd.th) hb (x := pt (some gl[j])) (m := 1 * (j : Int).toNat) ?_ ?_
    · rw [en_named, Int.toNat_natCast]
      exact flat_rdv (n := 1) (g := ptV) (fun _ => rfl) (k := 0) hj2 (by decide) rfl
    have hm' : L[j] ∈ L := List.getElem_mem ..
    have hni : L[j] ∉ L.take j := by
      intro hmem
      obtain ⟨n, hn, he⟩ := List.getElem_of_mem hmem
      rw [List.getElem_take] at he
      have hn' : n < j := by rw [List.length_take] at hn; omega
      have := (List.getElem_inj hnd).1 he
      omega
    have hal' : ((L.take j).foldl St.die A).alive L[j] = true := by rw [foldl_die_alive _ _ hni]; exact hal _ hm'
    obtain ⟨a, h3, h4⟩ := alive_lt hal'
    refine ok_bnd.2 (ok_mono (endc_spec C.th I hA (hx _ _ (hg j _ _ (List.getElem?_eq_getElem hjl) (List.getElem?_eq_getElem hjg))) h3 h4) ?_)
    rintro _ w2 ⟨T2, C2, S2, G2, I2, x2, A2⟩
    refine ok_ret.2 ?_
    simp only
    have e : ((L.take j).foldl St.die A).die L[j] = (L.take (j + 1)).foldl St.die A := by
      rw [List.take_add_one, List.getElem?_eq_getElem hjl, List.foldl_append]; rfl
    rw [e] at I2 A2
    rw [wrapI_in (by omega)]
    exact ih (j + 1) (by omega) (by omega) w2 T2 S2 G2 (C.trans C2) (sd.step C2) (bD.step C2) I2 (fun k b h => x2 _ _ (hx _ _ h)) (A2 rfl)
theorem unw_rest (hf : A.Fit0) {i0 k ci0 d p3 p8 D : Nat} {c7 : Option Nat} {L : List Nat} {tm : List Value} {w8 : World} {T8 U : Hp} {cx : Nat → Option Nat} (hal0 : A.alive i0 = true) (hrow : A.Row i0 L k) (hci0 : G.cx i0 = some ci0) (hck : G.cx k = some d) (hc7 : Cn G.cx c7 (A.eff k)) (v : Int)
    (h8 : UJ w T sb S A G p3 p8 d D w8 T8 cx U ⟨none, 0, 0⟩ [] [] (rcd 56 tm (rgIn Try.f56).1 (rgIn Try.f56).2.1 (rgIn Try.f56).2.2 D .ready none)) :
    Ok (
  bnd (f80_row (fun (z10 : Option Addr) =>
  bnd (recM 56 tm (rgIn Try.f56).1 (rgIn Try.f56).2.1 (rgIn Try.f56).2.2 D) fun _ =>
  bnd (beginM Try.prog (D + 1)) fun _ =>
  bnd (ld .sl ⟨p8, 0, none⟩) fun (v13 : Sl) =>
  bnd (runV Try.prog .sl (Instr.buildSlice 61 1 #[(0, .pointer z10)])) fun (v14 : Sl) =>
  bnd (runV Try.prog .sl (Builtin.append_ #[61, 61] 61 #[.slice v13.a v13.len v13.cap, .slice v14.a v14.len v14.cap])) fun (v15 : Sl) =>
  bnd (wrs ⟨p8, 0, none⟩ 0 [.slice v15.a v15.len v15.cap]) fun _ =>
  bnd (ld .ptr ⟨p3, 0, none⟩) fun (v16 : Option Addr) =>
  bnd (runV Try.prog .bool (binOp .eql 60 (.pointer z10) (.pointer v16))) fun (v17 : Bool) =>
  cnd v17 (
  endM Try.prog (D + 1) (some (.exit 1))) (
  endM Try.prog (D + 1) none)) (pt (some ci0))) fun _ =>
  bnd (leaveM Try.prog (D + 1)) fun (j11 : Option Code) =>
  match j11 with
  | none =>
  bnd (f36_frames_Stack_activate (pt (some sb)) none) fun (r18 : Unit) =>
  bnd (ld .sl ⟨p8, 0, none⟩) fun (v19 : Sl) =>
  loopM (fun (s20 : Int) =>
  cnd (decide (s20 < (v19.len : Int))) (
  bnd (ix 1 v19 s20) fun (p21 : Addr) =>
  bnd (ld .ptr p21) fun (v22 : Option Addr) =>
  bnd (f38_frames_Stack_end (pt (some sb)) v22) fun (r23 : Unit) =>
  ret (Sum.inl (IntKind.wrap .i64 (s20 + (1 : Int))))) (
  bnd (
  bnd (f39_frames_Stack_back (pt (some sb)) (pt c7) v) fun (r24 : Int) =>
  bnd (takeM Try.prog D) fun _ =>
  ret r24) fun r25 =>
  ret (Sum.inr r25))) (0 : Int)
  | some .ret =>
  bnd (takeM Try.prog D) fun _ =>
  ret (0 : Int)
  | some (.exit i12) =>
  cond (Nat.beq i12 1) (
  bnd (f36_frames_Stack_activate (pt (some sb)) none) fun (r26 : Unit) =>
  bnd (ld .sl ⟨p8, 0, none⟩) fun (v27 : Sl) =>
  loopM (fun (s28 : Int) =>
  cnd (decide (s28 < (v27.len : Int))) (
  bnd (ix 1 v27 s28) fun (p29 : Addr) =>
  bnd (ld .ptr p29) fun (v30 : Option Addr) =>
  bnd (f38_frames_Stack_end (pt (some sb)) v30) fun (r31 : Unit) =>
  ret (Sum.inl (IntKind.wrap .i64 (s28 + (1 : Int))))) (
  bnd (
  bnd (f39_frames_Stack_back (pt (some sb)) (pt c7) v) fun (r32 : Int) =>
  bnd (takeM Try.prog D) fun _ =>
  ret r32) fun r33 =>
  ret (Sum.inr r33))) (0 : Int)) (
  fail)
  | some _ => fail) w8 fun r w' => ∃ T', Tr en w T w' T' ∧ r = ((L.foldl St.die A).back (A.eff k) v).1 ∧ Hs T' sb ((L.foldl St.die A).back (A.eff k) v).2 := by
  have hml : maxLen = 9223372036854775807 := by decide
  let J : List Nat → Option Nat → Option Addr → World → Prop := fun l e p w' => k ∉ l ∧ ∃ (T' : Hp) (cx' : Nat → Option Nat) (c' : Option Nat) (U : Hp) (s : Sl) (gl : List Nat), UJ w T sb S A G p3 p8 d D w' T' cx' U s gl l (rcd 56 tm (rgIn Try.f56).1 (rgIn Try.f56).2.1 (rgIn Try.f56).2.2 D .ready none) ∧ p = pt c' ∧ Cn cx' c' e
  let J2 : List Nat → Option Nat → Option Addr → World → Prop := fun l e p w' => k ∉ l ∧ ∃ (T' : Hp) (cx' : Nat → Option Nat) (c' : Option Nat) (U : Hp) (s : Sl) (gl l2 : List Nat), (∀ i, e = some i → i ≠ k ∧ l2 = l ++ [i]) ∧ UJ w T sb S A G p3 p8 d D w' T' cx' U s gl l2 (rcd 56 tm (rgIn Try.f56).1 (rgIn Try.f56).2.1 (rgIn Try.f56).2.2 D .ready none) ∧ p = pt c' ∧ Cn cx' c' e
  let X : List Nat → World → Prop := fun l w' => l.getLast? = some k ∧ ∃ (T' : Hp) (cx' : Nat → Option Nat) (U : Hp) (s : Sl) (gl : List Nat), UJ w T sb S A G p3 p8 d D w' T' cx' U s gl l (rcd 56 tm (rgIn Try.f56).1 (rgIn Try.f56).2.1 (rgIn Try.f56).2.2 D .done (some (.exit 1)))
  refine ok_bnd.2 (ok_mono (row_do (A := A) (j := i0) hf.acy (I := J) (I2 := J2) (X := X) ?_ ?_ ?_ [] (some i0) (pt (some ci0)) w8 .nil ⟨by simp, T8, cx, some ci0, U, _, [], h8, rfl, ⟨ci0, rfl, h8.ext _ _ hci0⟩⟩) ?_)
  · -- a round
    rintro l i p w4 hp ⟨hn, T4, cx4, c', U4, s, gl, h4, rfl, hcn⟩
    obtain ⟨ci, rfl, hci⟩ := hcn
    have hrw := hp.row i rfl
    have hlv : (l ++ [i]).length ≤ A.living := nodup_living _ _ (row_nodup hf.acy hrw).1 (row_alive hrw hal0)
    have hlm := h4.inv.lmax
    have hmm := h4.inv.mmax
    have hgl := h4.len
    rw [List.length_append, List.length_singleton] at hlv
    refine ok_rec h4.bR ?_
    refine ok_begin h4.tr h4.bR fun w5 C5 b5 k5 e5 => ?_
    have h5 := h4.obj C5 b5 k5 e5
    clear h4 C5 b5 k5 e5
    refine ok_tld0 h5.rfl_ h5.u8 (x := s) rfl ?_
    refine ok_bnd.2 (ok_build1R row61 (by decide) (F := some ci) (v := .pointer (pt (some ci))) rfl ?_)
    have C6 := h5.rfl_.call ((Below.refl w5.heap.size w5).alloc (Nat.le_refl _) (.cells (ptV (some ci)).toArray 60))
    have hnb : blk (w5.alloc (.cells (ptV (some ci)).toArray 60)) w5.heap.size = some (ptV (some ci)).toArray := by rw [blk_alloc, if_pos rfl]
    generalize w5.alloc (.cells (ptV (some ci)).toArray 60) = w6 at C6 hnb
    have K : Src Try.prog 1 61 (.slice (some ⟨w5.heap.size, 0, none⟩) 1 1) 1 (([some ci] : List (Option Nat)).flatMap ptV) w6 := Src.ofSlice w6 row61.und ⟨w5.heap.size, 0, none⟩ 1 1 _ rfl (fun j u hj => by
      rw [addr_add, cell_blk hnb, Nat.zero_add, List.getElem?_toArray]; exact hj) (flat_one' row61.one)
    refine ok_appR C6 row61 en_named h5.rw_ K (by simp; omega) (by simp; omega) fun r w7 U7 C7 hr hU => ?_
    have keep : ∀ b o, U4 b = some o → (∀ L, o ≠ .named L) → U7 b = some o := fun b o hb hne => by
      rcases hU with ⟨_, _, h9⟩ | ⟨fb, L', rfl, hra, hfb⟩
      · cases h9
      rcases hfb with h0 | ⟨_, L, hL⟩
      · exact put_new hb h0
      · exact put_other hb hL (hne L)
    have u3 := keep _ _ h5.u3 (by simp)
    have u8 := keep _ _ h5.u8 (by simp)
    clear hU keep K hnb
    refine ok_twr0 (Tr.refl C7.th) (.cellv (slV r)) u8 (by simp [en]) rfl rfl fun w8 C8 => ?_
    have h9 := h5.ustep (s2 := r) (gl2 := gl ++ [ci]) (l2 := l ++ [i]) (C7.trans C8) ?_ (put_eq _ _ _) ?_ ?_ ?_
    rotate_left
    · refine put_ne _ ?_ |>.trans u3
      rintro rfl; rw [u3] at u8; simp only [Option.some.injEq, Ob.cellv.injEq] at u8; cases u8
    · rw [List.map_append]
      exact hr.mono fun b L _ hb => put_other hb u8 (by simp)
    · simp [hgl]
    · intro n i' b' g1 g2
      rcases Nat.lt_trichotomy n l.length with hlt | heq | hgt
      · rw [List.getElem?_append_left hlt] at g1
        rw [List.getElem?_append_left (by omega)] at g2
        exact h5.gone n i' b' g1 g2
      · subst heq
        rw [List.getElem?_append_right (Nat.le_refl _), Nat.sub_self] at g1
        rw [hgl, List.getElem?_append_right (Nat.le_refl _), Nat.sub_self] at g2
        simp only [List.getElem?_cons_zero, Option.some.injEq] at g1 g2
        subst g1; subst g2; exact hci
      · rw [List.getElem?_eq_none (by simp; omega)] at g1; cases g1
    refine ok_tld0 h9.rfl_ h9.u3 (x := pt (some d)) rfl ?_
    refine ok_ctxEq h9.tr h9.inv hci (h9.ext _ _ hck) ?_
    by_cases hik : i = k
    · subst hik
      refine ok_true (by simp) ?_
      refine ok_end h9.tr h9.bR (some (.exit 1)) fun w9 C9 b9 k9 e9 => .inr ⟨rfl, by simp, _, _, _, _, _, h9.obj C9 b9 k9 e9⟩
    · refine ok_false (by simpa using hik) ?_
      refine ok_end h9.tr h9.bR none fun w9 C9 b9 k9 e9 => .inl ⟨rfl, hn, _, _, some ci, _, _, _, l ++ [i], ?_, h9.obj C9 b9 k9 e9, rfl, ⟨ci, rfl, hci⟩⟩
      rintro _ h'; rw [Option.some.injEq] at h'; subst h'; exact ⟨hik, rfl⟩
  · rintro l i p w4 hp ⟨hn, T4, cx4, c', U4, s, gl, l2, hl2, h4, rfl, hcn⟩
    obtain ⟨ci, rfl, hci⟩ := hcn
    obtain ⟨hik, rfl⟩ := hl2 i rfl
    have hali : A.alive i = true := hp.alive hal0 i rfl
    refine ok_mono (from_spec h4.tr.th h4.inv hci hali) ?_
    rintro p' w5 ⟨T5, C5, cx5, c5, x5, I5, rfl, hc5, hk5⟩
    exact ⟨by simp [hn, Ne.symm hik], T5, cx5, c5, U4, s, gl, h4.tstep C5 x5 I5, rfl, hc5⟩
  · rintro l e p w4 ⟨hn, T4, cx4, c', U4, s, gl, h4, rfl, hcn⟩
    cases e with
    | none => have hcn : c' = none := hcn; subst hcn; rfl
    | some i => obtain ⟨ci, rfl, hci⟩ := hcn; rfl
  · rintro _ w4 (⟨l', p', hp, hn, _⟩ | ⟨l', i, hp, hl, T4, cx4, U4, s, gl, h4⟩)
    · obtain ⟨i, L', h1, _⟩ := hp.rest hrow hn
      cases h1
    have hik : i = k := by simpa using hl
    subst hik
    have hrw := hp.row i rfl
    have hLe := row_unique hf.acy hrow _ hrw
    subst hLe
    have hnd := (row_nodup hf.acy hrw).1
    have hal := row_alive hrw hal0
    have hlv := nodup_living _ _ hnd hal
    have hlm := h4.inv.lmax
    have hmm := h4.inv.mmax
    refine ok_leave h4.tr h4.bR (by simp) fun w5 C5 k5 e5 => ?_
    have sd : Side en w w5 T4 U4 := by
      obtain ⟨o, rfl⟩ := e5
      exact h4.sd.putObj h4.oR o
    have bD := k5 _ h4.bD
    clear e5 k5
    show Ok (cond (Nat.beq 1 1) _ _) w5 _
    rw [show Nat.beq 1 1 = true from rfl, cond_true]
    refine ok_bnd.2 (ok_mono (idle_spec C5.th h4.inv) ?_)
    rintro _ w6 ⟨T6, C6, S6, I6, A6⟩
    have sd := sd.step C6
    refine ok_tld0 (Tr.refl sd.th) h4.u8 (x := s) rfl ?_
    have key := unw_loop (w := w) (T := T) (sb := sb) (G := { G with cx := cx4 }) (D := D) hf h4.rw_ h4.len (by omega) h4.gone hnd hal (c7 := c7) (to := A.eff i) (by
      cases he : A.eff i with
      | none => rw [he] at hc7; exact hc7
      | some j => rw [he] at hc7; obtain ⟨b, h1, h2⟩ := hc7; exact ⟨b, h1, h4.ext _ _ h2⟩) (fun j hj => ⟨fun hm => by
      obtain ⟨Lx, hx⟩ := row_last hrw j hm
      exact row_acy hf.acy _ _ _ hj hx, eff_alive hj⟩) v _ 0 rfl (Nat.zero_le _) w6 T6 S6 _ (C5.trans C6) sd (bD.step C6) I6 (fun _ _ h => h) A6
    exact key
end Go.Proofs.Ytckfidopkajpaaa

/-
  Unwind, from the beginning.
-/
namespace Go.Proofs.Ytckfidopkajpaaa
set_option linter.unusedVariables false
open Go.Sh Go.RowKit
set_option maxRecDepth 100000
variable {w : World} {T : Hp} {sb : Nat} {S : Sk} {A : St} {G : Gh}
theorem unwind_spec (h : Th en w T) (hs : Hs T sb A) (x v : Int) : Sp (f56_frames_Stack_Unwind (pt (some sb)) x v) w T fun r _ T' => r = (A.unwind x v).1 ∧ Hs T' sb (A.unwind x v).2 := by
  unfold f56_frames_Stack_Unwind
  have C := Tr.refl h
  obtain ⟨hf, S, G, I, hA⟩ := hs
  refine ok_tcall C (thisc_spec C.th I hA) ?_
  rintro _ w1 T1 C ⟨cx1, c1, x1, I1, rfl, hc1⟩
  have hA1 := hA.ext x1
  unfold St.unwind
  cases hact : A.active with
  | none =>
    rw [hact] at hc1
    have hc1 : c1 = none := hc1
    subst hc1
    exact ok_true rfl (ok_ret.2 ⟨T1, C, rfl, hf, S, _, I1, hA1⟩)
  | some i0 =>
  rw [hact] at hc1
  obtain ⟨ci0, rfl, hci0⟩ := hc1
  simp only
  refine ok_false rfl ?_
  refine ok_bnd.2 (ok_mono (of_spec C.th I1 x) ?_)
  rintro r w2 ⟨T2, C2, rfl, hr⟩
  replace C := C.trans C2
  -- a cell beside the stack
  have sd := Side.none (en2 := en) w w2 (O2 := Ob) T2
  refine ok_tnew (Tr.refl sd.th) (.cellv (.pointer (pt none))) rfl fun p3 w3 hp3 D3 => ?_
  obtain ⟨C, sd⟩ := sd.turn C D3
  have u3 := put_eq (fun _ => none : Hp) p3 (.cellv (.pointer (pt none)))
  generalize put (fun _ => none : Hp) p3 (.cellv (.pointer (pt none))) = U at sd u3 D3
  rcases hr with ⟨k, d, h1, h2, h3, rfl⟩ | ⟨e, h1, h2, rfl⟩
  rotate_left
  · refine ok_twr0 (Tr.refl sd.th) (.cellv (.pointer (pt none))) u3 (by simp [en]) rfl rfl fun w4 D4 => ?_
    obtain ⟨C, sd⟩ := sd.turn C D4
    rw [h1]
    exact ok_true (by simpa using h2) (ok_ret.2 ⟨T2, C, rfl, hf, S, _, I1, hA1⟩)
  rw [h1]
  simp only
  refine ok_twr0 (Tr.refl sd.th) (.cellv (.pointer (pt (some d)))) u3 (by simp [en]) rfl rfl fun w4 D4 => ?_
  obtain ⟨C, sd⟩ := sd.turn C D4
  have u3 := put_eq U p3 (.cellv (.pointer (pt (some d))))
  generalize put U p3 (.cellv (.pointer (pt (some d)))) = U at sd u3
  refine ok_false rfl ?_
  refine ok_tld0 (Tr.refl sd.th) u3 (x := pt (some d)) rfl ?_
  have hal0 : A.alive i0 = true := hf.act i0 hact
  refine ok_bnd.2 (ok_mono (behind_does C.th hf I1 hci0 hal0 h3) ?_)
  rintro r w5 ⟨T3, D5, rfl, cx3, x3, I3⟩
  have sd := sd.step D5
  replace C := C.trans D5
  have hA3 := hA1.ext x3
  by_cases hb : ∃ l, A.Row i0 l k
  rotate_left
  · rw [dif_neg hb]
    have hbf : A.behind i0 k = false := by unfold St.behind; exact @decide_eq_false _ (Classical.propDecidable _) hb
    rw [hbf]
    exact ok_true rfl (ok_ret.2 ⟨T3, C, rfl, hf, S, _, I3, hA3⟩)
  rw [dif_pos hb]
  have hbt : A.behind i0 k = true := by unfold St.behind; exact @decide_eq_true _ (Classical.propDecidable _) hb
  rw [hbt]
  have hrow := hb.choose_spec
  generalize hb.choose = L at hrow
  refine ok_false rfl ?_
  refine ok_tld0 (Tr.refl sd.th) u3 (x := pt (some d)) rfl ?_
  refine ok_bnd.2 (ok_mono (from_spec C.th I3 (x3 _ _ h3) h2) ?_)
  rintro _ w6 ⟨T4, D6, cx4, c7, x4, I4, rfl, hc7, _⟩
  have sd := sd.step D6
  replace C := C.trans D6
  have hA4 := hA3.ext x4
  refine ok_tnew (Tr.refl sd.th) (.cellv (.slice none 0 0)) rfl fun p8 w7 hp8 D7 => ?_
  obtain ⟨C, sd⟩ := sd.turn C D7
  have u8 := put_eq U p8 (.cellv (.slice none 0 0))
  have u3 : put U p8 (.cellv (.slice none 0 0)) p3 = some (.cellv (.pointer (pt (some d)))) := put_new u3 hp8
  generalize put U p8 (.cellv (.slice none 0 0)) = U at sd u3 u8
  have hsz7 := C.keep.size
  refine ok_enter (Tr.refl C.th) fun D w8 D8 b1 b2 => ?_
  have hUD : ∀ b, w7.heap.size ≤ b → U b = none := fun b hb => by
    cases hu : U b with
    | none => rfl
    | some o => have := sd.th.lt hu; omega
  have hn1 := b1.new
  have hn2 := b2.new
  have sd := sd.step D8
  replace C := C.trans D8
  have hsz : w.heap.size ≤ w7.heap.size := hsz7
  refine ok_mono (unw_rest (w := w) (T := T) (sb := sb) (S := S) (A := A) (G := { G with cx := cx4 }) (p3 := p3) (p8 := p8) (D := D) (d := d) (cx := cx4) (U := U) (c7 := c7) hf.fit0 hal0 hrow (x4 _ _ (x3 _ _ hci0)) (x4 _ _ (x3 _ _ h3)) hc7 v
    ⟨C, fun _ _ h => h, I4, sd, u3, u8, rw_nil _ _, rfl, fun n i b h1 h2 => (by simp at h1), ⟨b1.at_, b1.off, Nat.le_trans hsz b1.new⟩, hUD _ hn1, ⟨b2.at_, b2.off, Nat.le_trans hsz b2.new⟩, hUD _ hn2⟩) ?_
  rintro r w9 ⟨T9, C9, rfl, hs9⟩
  exact ⟨T9, C9, rfl, hs9⟩
end Go.Proofs.Ytckfidopkajpaaa
