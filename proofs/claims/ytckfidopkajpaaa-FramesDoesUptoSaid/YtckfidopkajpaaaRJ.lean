/-
  Parts of the proof: RH, RI, RJ. It states what the functions do; no further condition.
-/
import Derived.Test.YtckfidopkajpaaaRG
set_option linter.unusedVariables false
set_option linter.unusedSimpArgs false
/-
  Three heaps side by side; clones that are new.
-/
namespace Go.Sh
set_option linter.unusedVariables false
open Go.RowKit
variable {O O2 O3 : Type} {en : O → List Value} {en2 : O2 → List Value} {en3 : O3 → List Value} {w0 w w' : World} {T0 T T' : Nat → Option O} {U U' : Nat → Option O2} {V V' : Nat → Option O3}
/-- A third one goes on. -/
theorem Side.other (h : Side en2 w0 w T U) (D : Tr en3 w V w' V') (hd : ∀ b, U b ≠ Option.none → V b = Option.none) : Side en2 w0 w' T U := by
  refine ⟨fun b o hb => ?_, h.off, h.new⟩
  have hlt := h.th.lt hb
  have hk := D.keep.block b hlt (by simpa using hd b (by rw [hb]; simp))
  obtain ⟨g1, g2⟩ := h.th b o hb
  exact ⟨(blk_of hk).trans g1, by unfold cln; rw [hk]; exact g2⟩
end Go.Sh
namespace Go.Proofs.Ytckfidopkajpaaa
set_option linter.unusedVariables false
open Go.Sh Go.RowKit
set_option maxRecDepth 100000
abbrev Vp := Nat → Option (List Value)
def ven (l : List Value) : List Value := l
structure Tri (O : Hp) (w0 w : World) (T : Hp) (U : Rp) (V : Vp) : Prop where
  t : Tr en w0 (fun _ => none) w T
  u : Side ren w0 w T U
  v : Side ven w0 w T V
  d : ∀ b, U b ≠ none → V b = none
  o : Side en w0 w T O
  du : ∀ b, U b ≠ none → O b = none
  dv : ∀ b, V b ≠ none → O b = none
section
variable {O2 O3 : Type} {en2 : O2 → List Value} {en3 : O3 → List Value} {w0 w w' : World} {X : Nat → Option O2} {Y Y' : Nat → Option O3}
theorem dj_new (h : ∀ b, X b ≠ none → Y b = none) (D : Tr en3 w Y w' Y') (hX : Th en2 w X) : ∀ b, X b ≠ none → Y' b = none := by
  intro b hb
  cases hV : Y' b with
  | none => rfl
  | some o =>
    rcases D.new b (by rw [hV]; simp) with h' | h'
    · exact absurd (h b hb) h'
    · cases hU : X b with
      | none => exact absurd hU hb
      | some o => have := hX.lt hU; omega
theorem dj_old (h : ∀ b, Y b ≠ none → X b = none) (D : Tr en3 w Y w' Y') (hX : Th en2 w X) : ∀ b, Y' b ≠ none → X b = none := by
  intro b hb
  rcases D.new b hb with h' | h'
  · exact h b h'
  · cases hU : X b with
    | none => rfl
    | some o => have := hX.lt hU; omega
theorem dj_swap (h : ∀ b, X b ≠ none → Y b = none) : ∀ b, Y b ≠ none → X b = none := fun b hb => by
  cases hU : X b with
  | none => rfl
  | some o => exact absurd (h b (by rw [hU]; simp)) hb
end
section
variable {O O' : Hp} {w0 w w' : World} {T T' : Hp} {U U' : Rp} {V V' : Vp}
theorem Tri.stepT (h : Tri O w0 w T U V) (C : Tr en w T w' T') : Tri O w0 w' T' U V := ⟨h.t.trans C, h.u.step C, h.v.step C, h.d, h.o.step C, h.du, h.dv⟩
theorem Tri.stepU (h : Tri O w0 w T U V) (D : Tr ren w U w' U') : Tri O w0 w' T U' V := by
  obtain ⟨t, u⟩ := h.u.turn h.t D
  exact ⟨t, u, h.v.other D (dj_swap h.d), dj_old h.d D h.v.th, h.o.other D (dj_swap h.du), dj_old h.du D h.o.th, h.dv⟩
theorem Tri.stepV (h : Tri O w0 w T U V) (D : Tr ven w V w' V') : Tri O w0 w' T U V' := by
  obtain ⟨t, v⟩ := h.v.turn h.t D
  exact ⟨t, h.u.other D h.d, v, dj_new h.d D h.u.th, h.o.other D (dj_swap h.dv), h.du, dj_old h.dv D h.o.th⟩
theorem Tri.stepO (h : Tri O w0 w T U V) (D : Tr en w O w' O') : Tri O' w0 w' T U V := by
  obtain ⟨t, o⟩ := h.o.turn h.t D
  exact ⟨t, h.u.other D h.du, h.v.other D h.dv, h.d, o, dj_new h.du D h.u.th, dj_new h.dv D h.v.th⟩
theorem Tri.drop (h : Tri O w0 w T U V) : Tri O w0 w T U (fun _ => none) := ⟨h.t, h.u, Side.none _ _ _, fun _ _ => rfl, h.o, h.du, fun _ h => absurd rfl h⟩
theorem Tri.below (h : Tri O w0 w T U V) : Below w0.heap.size w0 w := tr_below0 h.t
theorem Tri.awayT (h : Tri O w0 w T U V) {s : Sl} {l : List Int} (H : Arr w0.heap.size w0 s (nums .i64 l)) : Away T w s l := away_old H (Below.refl _ _) h.t
theorem Tri.awayU (h : Tri O w0 w T U V) {s : Sl} {l : List Int} (H : Arr w0.heap.size w0 s (nums .i64 l)) : AwayR U w s l := by
  refine ⟨(h.awayT H).1, ?_⟩
  rcases H.2.2.2 with h0 | ⟨b, o, c, h1, h2, _⟩
  · left; simpa [nums] using h0
  · refine .inr ⟨b, o, h1, ?_⟩
    cases hU : U b with
    | none => rfl
    | some o =>
      have := h.u.new b (by rw [hU]; simp)
      omega
/-- A row of one's own beside. -/
def mkI (l : List Int) : List Value := l.flatMap iV
theorem own_arr (h : Th ven w V) {s : Sl} {l : List Int} (hr : Rw V mkI s l) : Arr w.heap.size w s (nums .i64 l) := by
  refine ⟨by rw [hr.len]; simp [nums], hr.le, hr.max, ?_⟩
  rcases hr.at_ with ⟨h1, h2⟩ | ⟨b, L, h1, h2, h3, h4⟩
  · left
    have := hr.len; have := hr.le
    have : l = [] := List.eq_nil_of_length_eq_zero (by omega)
    rw [this]; rfl
  · refine .inr ⟨b, 0, _, h1, h.lt h2, (h b _ h2).1, fun i hi => ?_⟩
    simp only [nums, List.length_map] at hi
    rw [Nat.zero_add, List.getElem?_toArray]
    show (L.flatMap iV)[i]? = _
    rw [← nums_flat]
    simp only [nums, List.getElem?_map]
    have h5 : (L.take l.length)[i]? = L[i]? := by rw [List.getElem?_take_of_lt hi]
    rw [h4] at h5
    rw [← h5]
theorem Tri.ownT (h : Tri O w0 w T U V) {s : Sl} {l : List Int} (hr : Rw V mkI s l) : Away T w s l := by
  refine ⟨own_arr h.v.th hr, ?_⟩
  rcases hr.at_ with ⟨h1, h2⟩ | ⟨b, L, h1, h2, h3, h4⟩
  · left
    have := hr.len; have := hr.le
    exact List.eq_nil_of_length_eq_zero (by omega)
  · exact .inr ⟨b, 0, h1, h.v.off b (by rw [h2]; simp)⟩
end
section
variable {w : World} {T : Hp} {sb : Nat} {S : Sk} {A : St} {G : Gh}
theorem clone_spec2 (h : Th en w T) {s : Sl} {l : List Int} (H : Arr w.heap.size w s (nums .i64 l)) (hl : l.length ≤ 100000) (o : Ow) :
    Sp (f64_slices_Cloneint64_int64 s) w T fun r _ T' => In T' o r l ∧ (∀ b p, T b = some p → T' b = some p) ∧ (l = [] ∨ ∃ b L, r.a = some ⟨b, 0, none⟩ ∧ T' b = some (.ints o L) ∧ T b = none ∧ l.length ≤ L.length) := by
  unfold f64_slices_Cloneint64_int64
  have hml : maxLen = 9223372036854775807 := by decide
  have C := Tr.refl h
  have hlen : s.len = l.length := by have := H.1; simpa using this
  cases hs : s.a with
  | none =>
    have h0 : l = [] := by
      rcases H.2.2.2 with h1 | ⟨b, o', c, h1, _⟩
      · simpa [nums] using h1
      · rw [hs] at h1; cases h1
    subst h0
    exact ok_true rfl (ok_ret.2 ⟨T, C, ⟨rfl, Nat.le_refl _, Nat.zero_le _, .inl rfl⟩, fun _ _ h => h, .inl rfl⟩)
  | some a =>
    refine ok_false rfl ?_
    rw [← hs]
    refine ok_bnd.2 (ok_buildL0 slt22 ?_)
    have hB : Below w.heap.size w (w.alloc (.cells #[] 2)) := (Below.refl _ _).alloc (Nat.le_refl _) _
    have C1 := C.call hB
    have H1 : Arr (w.alloc (.cells #[] 2)).heap.size (w.alloc (.cells #[] 2)) s (nums .i64 l) := arr_size (arr_below H hB)
    have A0 : Arr (w.alloc (.cells #[] 2)).heap.size (w.alloc (.cells #[] 2)) (⟨some ⟨w.heap.size, 0, none⟩, 0, 0⟩ : Sl) [] := ⟨rfl, Nat.le_refl _, Nat.zero_le _, .inl rfl⟩
    generalize w.alloc (.cells #[] 2) = w1 at C1 H1 A0
    have K := arr_src slt22.under H1 (nums_one l)
    obtain ⟨inf, hinf, hsz, hz, hby⟩ := slt22.info
    by_cases h0 : l = []
    · subst h0
      have hz0 : s.len = 0 := hlen
      have K' : Src Try.prog inf.size 22 (.slice s.a s.len s.cap) 0 [] w1 := by
        have h9 : Src Try.prog 1 22 (.slice s.a s.len s.cap) s.len [] w1 := K
        rw [hsz]
        rw [hz0] at h9 ⊢
        exact h9
      refine ok_bnd.2 (ok_runV (run_append_nothing w1 22 22 22 2 inf slt22.under hinf (some ⟨w.heap.size, 0, none⟩) 0 0 (Nat.le_refl _) _ K') (x := (⟨some ⟨w.heap.size, 0, none⟩, 0, 0⟩ : Sl)) rfl ?_)
      exact ok_ret.2 ⟨T, C1, ⟨rfl, Nat.le_refl _, Nat.zero_le _, .inl rfl⟩, fun _ _ h => h, .inl rfl⟩
    · have hpos : 0 < l.length := List.length_pos_iff.2 h0
      refine ok_bnd.2 (ok_append_new slt22 A0 (by simp) K (by show 0 < 0 + s.len; omega) (by show (0 + s.len) * 8 ≤ _; omega) (by show 0 + s.len ≤ maxLen; omega) fun c hc1 hc2 => ?_)
      have e1 : ([] ++ nums .i64 l ++ List.replicate (c - (0 + s.len)) (Value.int .i64 0)) = en (.ints o (l ++ List.replicate (c - s.len) 0)) := by
        simp [en, nums]
      simp only at hc1
      rw [e1]
      have C2 := C1.drew.alloc (.ints o (l ++ List.replicate (c - s.len) 0)) 2
      refine ok_ret.2 ⟨_, C2, ⟨by show 0 + s.len = _; omega, hc1, hc2, .inr ⟨w1.heap.size, _, rfl, put_eq _ _ _, ?_⟩⟩, fun b p hp => put_new hp C1.drew.none_at, .inr ⟨w1.heap.size, _, rfl, put_eq _ _ _, C1.drew.none_at, by simp⟩⟩
      rw [List.take_append_of_le_length (Nat.le_refl _), List.take_length]
theorem lies_spec2 (h : Th en w T) (hs : Hs T sb A) (x : Int) : Sp (f21_frames_Stack_Lies (pt (some sb)) x) w T fun r w' T' => r.2 = (A.lies x).2 ∧ In T' (.slots 0) r.1 (A.lies x).1 ∧ (∀ b p, T b = some p → T' b = some p) ∧ ((A.lies x).1 = [] ∨ ∃ b L, r.1.a = some ⟨b, 0, none⟩ ∧ T' b = some (.ints (.slots 0) L) ∧ T b = none ∧ (A.lies x).1.length ≤ L.length) ∧ (A.lies x).1.length ≤ 4096 := by
  unfold f21_frames_Stack_Lies St.lies
  have C := Tr.refl h
  obtain ⟨hf, S, G, I, hA⟩ := hs
  refine ok_tcall C (of_spec C.th I x) ?_
  rintro r w1 T1 C ⟨rfl, ⟨k, c, h1, h2, h3, rfl⟩ | ⟨e, h1, h2, rfl⟩⟩
  · rw [h1]
    obtain ⟨a, ha, hal⟩ := alive_lt h2
    simp only
    rw [ha]
    refine ok_false rfl ?_
    refine ok_tcall C (parts_spec C.th I h3 ha hal) ?_
    rintro ⟨r1, r2⟩ w2 T2 C ⟨rfl, _, _, hr, hl⟩
    refine ok_tcall C (clone_spec2 C.th hr (by omega) (.slots 0)) ?_
    rintro r3 w3 T3 C ⟨hin, hk, hn⟩
    refine ok_ret.2 ⟨T3, C, rfl, hin, hk, hn, ?_⟩
    exact hl
  · rw [h1]
    exact ok_true (by simpa using h2) (ok_ret.2 ⟨_, C, rfl, ⟨rfl, Nat.le_refl _, Nat.zero_le _, .inl rfl⟩, fun _ _ h => h, .inl rfl, by simp⟩)
theorem RInv.grow {U U2 : Rp} {sb : Nat} {S : Rk} {L : List Ra} {A : St} (I : RInv U sb S L A) (k : ∀ b o, U b = some o → U2 b = some o) : RInv U2 sb S L A :=
  { I with stk := k _ _ I.stk, all := I.all.mono fun b L _ hb => k _ _ hb, each := fun j a r h1 h2 => (I.each j a r h1 h2).mono (fun b t l hb => k _ _ hb) rfl, nmd := I.nmd.mono fun b L _ hb => k _ _ hb }
end
end Go.Proofs.Ytckfidopkajpaaa

/-
  What one act does to the stack and to the reference: the same.
-/
namespace Go.Proofs.Ytckfidopkajpaaa
set_option linter.unusedVariables false
open Go.Sh Go.RowKit
set_option maxRecDepth 100000
theorem mkI_rep (n : Nat) : List.replicate n (Value.int .i64 0) = mkI (List.replicate n 0) := by
  show _ = (List.replicate n (0 : Int)).flatMap iV
  rw [← nums_flat]; simp [nums]
theorem mk_rl {w : World} {U : Rp} (h : Th ren w U) {k : Nat} {s : Sl} {l : List Int} (hr : Rw U (Rb.ints k true) s l) : Arr w.heap.size w s (nums .i64 l) := by
  refine ⟨by rw [hr.len]; simp [nums], hr.le, hr.max, ?_⟩
  rcases hr.at_ with ⟨h1, h2⟩ | ⟨b, L, h1, h2, h3, h4⟩
  · left
    have := hr.len; have := hr.le
    have : l = [] := List.eq_nil_of_length_eq_zero (by omega)
    rw [this]; rfl
  · refine .inr ⟨b, 0, _, h1, h.lt h2, (h b _ h2).1, fun i hi => ?_⟩
    simp only [nums, List.length_map] at hi
    rw [Nat.zero_add, List.getElem?_toArray]
    show (L.flatMap iV)[i]? = _
    rw [← nums_flat]
    simp only [nums, List.getElem?_map]
    have h5 : (L.take l.length)[i]? = L[i]? := by rw [List.getElem?_take_of_lt hi]
    rw [h4] at h5
    rw [← h5]
section
variable {O : Hp} {w0 w : World} {T : Hp} {U : Rp} {V : Vp} {sa rb : Nat} {A : St}
theorem ok_vnumW {α : Type} {Q : α → World → Prop} (tri : Tri O w0 w T U V) {s : Sl} {l : List Int} (h : Rw V mkI s l) {i : Nat} (hi : i < l.length) {n : Int} (hn : n = i) (v : Int) {f : Unit → M α}
    (hq : ∀ V' w', Tri O w0 w' T U V' → Rw V' mkI s (l.set i v) → Ok (f ()) w' Q) : Ok (bnd (ix 1 s n) fun p => bnd (wrs p 0 [.int .i64 v]) f) w Q := by
  obtain ⟨fb, M, g1, g2, g3, g4, g5, g6⟩ := h.get (List.getElem?_eq_getElem hi)
  subst hn
  refine ok_ixN g1 (by omega) (by omega) ?_
  rw [Int.toNat_natCast]
  have hlt : i < M.length := by rw [g5]; have := h.le; omega
  refine ok_twr0 (Tr.refl tri.v.th) (mkI (M.set i v)) g2 ?_ rfl (flat_spl (g := iV) (n := 1) (fun _ => rfl) (k := 0) g3 (Nat.le_refl 1) rfl) fun w' C' => hq _ w' (tri.stepV C') ?_
  · show 1 * i + 1 ≤ (M.flatMap iV).length
    rw [flat_length (g := iV) (n := 1) (fun _ => rfl)]; omega
  · refine ⟨by rw [List.length_set]; exact h.len, h.le, h.max, .inr ⟨fb, _, g1, put_eq _ _ _, by rw [List.length_set]; exact g5, ?_⟩⟩
    rw [List.length_set, List.take_set, g6]
/-- Marks put into a row of one's own. -/
theorem own_loop {s : Sl} {l0 : List Int} (hlen : s.len = l0.length) (hsm : s.len ≤ 1048576) (v : Int) (res : Bool) (tri : Tri O w0 w T U V) (h : Rw V mkI s l0) :
    Ok (loopM (fun (s18 : Int) => cnd (decide (s18 < (s.len : Int))) (bnd (ix 1 s s18) fun (p19 : Addr) => bnd (wrs p19 0 [.int .i64 v]) fun _ => ret (Sum.inl (IntKind.wrap .i64 (s18 + (1 : Int))))) (ret (Sum.inr res))) (0 : Int)) w
      fun r w' => r = res ∧ Tri O w0 w' T U (fun _ => none) := by
  refine ok_loop (fun (i : Int) w' => ∃ (j : Nat) (V : Vp) (l : List Int), i = (j : Int) ∧ j ≤ s.len ∧ Tri O w0 w' T U V ∧ Rw V mkI s l ∧ l.length = l0.length) (fun i _ => ((s.len : Int) - i).toNat) ?_ _ _ ⟨0, V, l0, rfl, Nat.zero_le _, tri, h, rfl⟩
  rintro i w2 ⟨j, V2, l, rfl, hj, tri2, h2, hl⟩
  by_cases hlt : j < s.len
  · refine ok_true (by simp only [decide_eq_true_eq]; omega) ?_
    refine ok_vnumW tri2 h2 (by omega) rfl v fun V3 w3 tri3 h3 => ok_ret.2 ⟨⟨j + 1, V3, _, ?_, hlt, tri3, h3, by rw [List.length_set]; exact hl⟩, ?_⟩
    · rw [wrapI_in (by omega)]; simp
    · rw [wrapI_in (by omega)]; omega
  · exact ok_false (by simp only [decide_eq_false_iff_not]; omega) (ok_ret.2 ⟨rfl, tri2.drop⟩)
/-- The same in a clone. -/
theorem lies_loop {s : Sl} {T1 : Hp} {n b : Nat} (hsm : s.len ≤ 1048576) (v : Int) (res : Bool) (tri : Tri O w0 w T1 U V) (hk : ∀ b p, T b = some p → T1 b = some p)
    (h : s.len = 0 ∨ ∃ b L, s.a = some ⟨b, 0, none⟩ ∧ T1 b = some (.ints (.slots 0) L) ∧ T b = none ∧ s.len ≤ L.length) :
    Ok (loopM (fun (s18 : Int) => cnd (decide (s18 < (s.len : Int))) (bnd (ix 1 s s18) fun (p19 : Addr) => bnd (wrs p19 0 [.int .i64 v]) fun _ => ret (Sum.inl (IntKind.wrap .i64 (s18 + (1 : Int))))) (ret (Sum.inr res))) (0 : Int)) w
      fun r w' => r = res ∧ ∃ T', Tri O w0 w' T' U (fun _ => none) ∧ ∀ b p, T b = some p → T' b = some p := by
  refine ok_loop (fun (i : Int) w' => ∃ (j : Nat) (T' : Hp), i = (j : Int) ∧ j ≤ s.len ∧ Tri O w0 w' T' U V ∧ (∀ b p, T b = some p → T' b = some p) ∧ (s.len = 0 ∨ ∃ b L, s.a = some ⟨b, 0, none⟩ ∧ T' b = some (.ints (.slots 0) L) ∧ T b = none ∧ s.len ≤ L.length)) (fun i _ => ((s.len : Int) - i).toNat) ?_ _ _ ⟨0, T1, rfl, Nat.zero_le _, tri, hk, h⟩
  rintro i w2 ⟨j, T2, rfl, hj, tri2, hk2, h2⟩
  by_cases hlt : j < s.len
  · refine ok_true (by simp only [decide_eq_true_eq]; omega) ?_
    rcases h2 with h2 | ⟨b, L, g1, g2, g3, g4⟩
    · omega
    refine ok_ixN g1 (by omega) (by omega) ?_
    rw [Int.toNat_natCast]
    obtain ⟨y, hy⟩ : ∃ y, L[j]? = some y := ⟨_, List.getElem?_eq_getElem (by omega)⟩
    refine ok_twr0 (Tr.refl tri2.t.th) (.ints (.slots 0) (L.set j v)) g2 ?_ rfl ?_ fun w3 C3 => ?_
    · show 1 * j + 1 ≤ (nums .i64 L).length
      simp [nums]; omega
    · show spl (nums .i64 L) (1 * j) _ = nums .i64 (L.set j v)
      rw [nums_flat, nums_flat]
      exact flat_spl (g := iV) (n := 1) (fun _ => rfl) (k := 0) hy (Nat.le_refl 1) rfl
    · refine ok_ret.2 ⟨⟨j + 1, _, ?_, hlt, tri2.stepT C3, fun c p hc => ?_, .inr ⟨b, _, g1, put_eq _ _ _, g3, by rw [List.length_set]; exact g4⟩⟩, ?_⟩
      · rw [wrapI_in (by omega)]; simp
      · rw [put_ne]
        · exact hk2 c p hc
        · rintro rfl; rw [g3] at hc; cases hc
      · rw [wrapI_in (by omega)]; omega
  · exact ok_false (by simp only [decide_eq_false_iff_not]; omega) (ok_ret.2 ⟨rfl, T2, tri2.drop, hk2⟩)
theorem does_spec (tri : Tri O w0 w T U (fun _ => none)) (hs : Hs T sa A) (hr : Rs U rb A) (hnm : A.named.length ≤ 3000000000000) (hal : A.acts.length ≤ 2100000000000) (c m v x d n : Int) {s : Sl} {l : List Int} (H : Arr w0.heap.size w0 s (nums .i64 l)) (hll : l.length ≤ 1048576) (hn : -9223372036854775808 ≤ n ∧ n ≤ 9223372036854775807) :
    Ok (f16_palaverlaw23_does (pt (some sa)) (pt (some rb)) (c, m, v, x, d, n, s)) w fun r w' => r = true ∧ ∃ T' U', Tri O w0 w' T' U' (fun _ => none) ∧ Hs T' sa (A.answer c m v x d n l).2 ∧ Rs U' rb (A.answer c m v x d n l).2 := by
  unfold f16_palaverlaw23_does St.answer
  have hml : maxLen = 9223372036854775807 := by decide
  have hslen : s.len = l.length := by have := H.1; simpa [nums] using this
  refine ok_tnew (Tr.refl tri.v.th) (en := ven) [.int .i64 c, .int .i64 m, .int .i64 v, .int .i64 x, .int .i64 d, .int .i64 n, slV s] rfl fun p w1 hp0 C1 => ?_
  have tri1 := tri.stepV C1
  have hp := put_eq (fun _ => none : Vp) p [.int .i64 c, .int .i64 m, .int .i64 v, .int .i64 x, .int .i64 d, .int .i64 n, slV s]
  generalize put (fun _ => none : Vp) p [.int .i64 c, .int .i64 m, .int .i64 v, .int .i64 x, .int .i64 d, .int .i64 n, slV s] = V at tri1 hp
  clear C1 hp0
  refine ok_tld (Tr.refl tri1.v.th) hp (x := c) rfl ?_
  obtain ⟨S, L, I⟩ := hr
  have hr : Rs U rb A := ⟨S, L, I⟩
  by_cases h1 : c = 1
  · rw [if_pos h1]
    refine ok_true (by simpa using h1) ?_
    simp only [bnd_as, bnd_ret]
    refine ok_tord (Tr.refl tri1.v.th) fun o w2 C2 => ?_
    have tri2 := tri1.stepV C2
    refine ok_tld (Tr.refl tri2.v.th) hp (x := s) rfl ?_
    refine ok_tld (Tr.refl tri2.v.th) hp (x := s) rfl ?_
    have e1 : IntKind.wrap .i64 ((s.len : Int) + 1) = ((l.length + 1 : Nat) : Int) := by rw [hslen, wrapI_in (by omega)]; omega
    rw [e1]
    refine ok_bnd.2 (ok_make slt22 (l := 0) (c := ((l.length + 1 : Nat) : Int)) (by omega) (by omega) (by omega) (by omega) ?_)
    rw [Int.toNat_natCast, mkI_rep]
    have hnone : V w2.heap.size = none := by
      cases hV : V w2.heap.size with
      | none => rfl
      | some o => have := tri2.v.th.lt hV; omega
    have C3 := (Tr.refl tri2.v.th).alloc (mkI (List.replicate (l.length + 1) 0)) 2
    have tri3 := tri2.stepV C3
    have hpne : p ≠ w2.heap.size := by rintro rfl; rw [hnone] at hp; cases hp
    have hp3 : put V w2.heap.size (mkI (List.replicate (l.length + 1) 0)) p = some _ := (put_ne _ hpne).trans hp
    have hrw3 : Rw (put V w2.heap.size (mkI (List.replicate (l.length + 1) 0))) mkI ⟨some ⟨w2.heap.size, 0, none⟩, (0 : Int).toNat, l.length + 1⟩ [] := ⟨rfl, Nat.zero_le _, by show l.length + 1 ≤ maxLen; omega, .inr ⟨w2.heap.size, _, rfl, put_eq _ _ _, by simp, rfl⟩⟩
    generalize hVV : put V w2.heap.size (mkI (List.replicate (l.length + 1) 0)) = V3 at tri3 hp3 hrw3 C3
    show Ok (bnd _ _) (w2.alloc (.cells (ven (mkI (List.replicate (l.length + 1) 0))).toArray 2)) _
    generalize w2.alloc (.cells (ven (mkI (List.replicate (l.length + 1) 0))).toArray 2) = w3 at tri3 C3 ⊢
    refine ok_tchk (Tr.refl tri3.v.th) hp3 rfl ?_
    refine ok_tchk (Tr.refl tri3.v.th) hp3 rfl ?_
    have K : Src Try.prog 1 22 (.slice s.a s.len s.cap) s.len (l.flatMap iV) w3 := by
      rw [← nums_flat]
      exact arr_src row22.und (tri3.awayT H).1 (by rw [nums_flat]; exact flat_one' row22.one)
    refine ok_appR (Tr.refl tri3.v.th) row22 (mk := mkI) (fun _ => rfl) hrw3 K (by simp; omega) (by simp; omega) fun s3 w4 V4 C4 hs3 hT => ?_
    rw [List.nil_append] at hs3
    have tri4 := tri3.stepV C4
    have hp4 : V4 p = some [.int .i64 c, .int .i64 m, .int .i64 v, .int .i64 x, .int .i64 d, .int .i64 n, slV s] := by
      rcases hT with ⟨rfl, _, _⟩ | ⟨fb, M, rfl, hra, hfb⟩
      · exact hp3
      rw [put_ne]
      · exact hp3
      · rintro rfl
        rcases hfb with h0 | ⟨h9, _⟩
        · rw [hp3] at h0; cases h0
        · simp only [Option.some.injEq, Addr.mk.injEq, and_true] at h9
          exact hpne h9.symm
    clear hT K C4 hrw3 hp3 hVV C3 hp
    refine ok_tchk (Tr.refl tri4.v.th) hp4 rfl ?_
    refine ok_tld (Tr.refl tri4.v.th) hp4 (x := m) rfl ?_
    refine ok_tld (Tr.refl tri4.v.th) hp4 (x := n) rfl ?_
    refine ok_bnd.2 (ok_mono (call_spec tri4.t.th hs m (tri4.ownT hs3) (by omega) n hn) ?_)
    rintro _ w5 ⟨T5, C5, rfl, hs5⟩
    have tri5 := tri4.stepT C5
    refine ok_tld (Tr.refl tri5.v.th) hp4 (x := m) rfl ?_
    refine ok_tld (Tr.refl tri5.v.th) hp4 (x := s) rfl ?_
    refine ok_tld (Tr.refl tri5.v.th) hp4 (x := n) rfl ?_
    refine ok_bnd.2 (ok_mono (rcall_spec tri5.u.th hs.1 (by omega) I m (tri5.awayU H) (by omega) n hn I.nlt) ?_)
    rintro _ w6 ⟨U6, C6, rfl, hr6⟩
    have tri6 := tri5.stepU C6
    refine ok_tld (Tr.refl tri6.v.th) hp4 (x := s) rfl ?_
    refine ok_bnd.2 (ok_mono (same_spec (own_arr tri6.v.th hs3) (tri6.awayT H).1) ?_)
    rintro _ w7 ⟨hB7, rfl⟩
    have tri7 := tri6.stepV ((Tr.refl tri6.v.th).call hB7)
    refine ok_mono (own_loop (l0 := l) hs3.len (by rw [hs3.len]; exact hll) (-77) _ tri7 hs3) ?_
    rintro _ w8 ⟨rfl, tri8⟩
    exact ⟨by simp, _, _, tri8, hs5, hr6⟩
  rw [if_neg h1]
  refine ok_false (by simpa using h1) ?_
  by_cases h2 : c = 2
  · rw [if_pos h2]
    refine ok_true (by simpa using h2) ?_
    refine ok_tld (Tr.refl tri1.v.th) hp (x := v) rfl ?_
    refine ok_bnd.2 (ok_mono (push_spec tri1.t.th hs v) ?_)
    rintro _ w2 ⟨T2, C2, rfl, hs2⟩
    have tri2 := tri1.stepT C2
    refine ok_tld (Tr.refl tri2.v.th) hp (x := v) rfl ?_
    refine ok_bnd.2 (ok_mono (rpush_spec tri2.u.th hs.1.act I v) ?_)
    rintro _ w3 ⟨U3, C3, rfl, hr3⟩
    have tri3 := tri2.stepU C3
    exact ok_ret.2 ⟨by simp, _, _, tri3.drop, hs2, hr3⟩
  rw [if_neg h2]
  refine ok_false (by simpa using h2) ?_
  by_cases h3 : c = 3
  · rw [if_pos h3]
    refine ok_true (by simpa using h3) ?_
    refine ok_bnd.2 (ok_mono (pop_spec tri1.t.th hs) ?_)
    rintro _ w2 ⟨T2, C2, rfl, hs2⟩
    have tri2 := tri1.stepT C2
    refine ok_bnd.2 (ok_mono (rpop_spec tri2.u.th hs.1.act I) ?_)
    rintro _ w3 ⟨U3, C3, rfl, hr3⟩
    have tri3 := tri2.stepU C3
    exact ok_ret.2 ⟨by simp, _, _, tri3.drop, hs2, hr3⟩
  rw [if_neg h3]
  refine ok_false (by simpa using h3) ?_
  by_cases h4 : c = 4
  · rw [if_pos h4]
    refine ok_true (by simpa using h4) ?_
    refine ok_tld (Tr.refl tri1.v.th) hp (x := n) rfl ?_
    refine ok_bnd.2 (ok_mono (get_spec tri1.t.th hs n) ?_)
    rintro _ w2 ⟨T2, C2, rfl, hs2⟩
    have tri2 := tri1.stepT C2
    refine ok_tld (Tr.refl tri2.v.th) hp (x := n) rfl ?_
    refine ok_bnd.2 (ok_mono (rget_spec tri2.u.th hs.1.act I n) ?_)
    rintro _ w3 ⟨U3, C3, e3, rfl⟩
    subst e3
    have tri3 := tri2.stepU C3
    exact ok_ret.2 ⟨by simp, _, _, tri3.drop, hs2, hr⟩
  rw [if_neg h4]
  refine ok_false (by simpa using h4) ?_
  by_cases h5 : c = 5
  · rw [if_pos h5]
    refine ok_true (by simpa using h5) ?_
    refine ok_tld (Tr.refl tri1.v.th) hp (x := n) rfl ?_
    refine ok_tld (Tr.refl tri1.v.th) hp (x := v) rfl ?_
    refine ok_bnd.2 (ok_mono (set_spec tri1.t.th hs n v) ?_)
    rintro _ w2 ⟨T2, C2, rfl, hs2⟩
    have tri2 := tri1.stepT C2
    refine ok_tld (Tr.refl tri2.v.th) hp (x := n) rfl ?_
    refine ok_tld (Tr.refl tri2.v.th) hp (x := v) rfl ?_
    refine ok_bnd.2 (ok_mono (rset_spec tri2.u.th hs.1.act I n v) ?_)
    rintro _ w3 ⟨U3, C3, rfl, hr3⟩
    have tri3 := tri2.stepU C3
    exact ok_ret.2 ⟨by simp, _, _, tri3.drop, hs2, hr3⟩
  rw [if_neg h5]
  refine ok_false (by simpa using h5) ?_
  by_cases h6 : c = 6
  · rw [if_pos h6]
    refine ok_true (by simpa using h6) ?_
    refine ok_tld (Tr.refl tri1.v.th) hp (x := v) rfl ?_
    refine ok_bnd.2 (ok_mono (return_spec tri1.t.th hs v) ?_)
    rintro _ w2 ⟨T2, C2, rfl, hs2⟩
    have tri2 := tri1.stepT C2
    refine ok_tld (Tr.refl tri2.v.th) hp (x := v) rfl ?_
    refine ok_bnd.2 (ok_mono (rret_spec tri2.u.th hs.1 I v) ?_)
    rintro _ w3 ⟨U3, C3, rfl, hr3⟩
    have tri3 := tri2.stepU C3
    exact ok_ret.2 ⟨by simp, _, _, tri3.drop, hs2, hr3⟩
  rw [if_neg h6]
  refine ok_false (by simpa using h6) ?_
  by_cases h7 : c = 7
  · rw [if_pos h7]
    refine ok_true (by simpa using h7) ?_
    refine ok_bnd.2 (ok_mono (this_spec tri1.t.th hs (by omega)) ?_)
    rintro _ w2 ⟨T2, C2, rfl, hs2⟩
    have tri2 := tri1.stepT C2
    refine ok_bnd.2 (ok_mono (rthis_spec tri2.u.th hs.1 (by omega) I) ?_)
    rintro _ w3 ⟨U3, C3, rfl, hr3⟩
    have tri3 := tri2.stepU C3
    exact ok_ret.2 ⟨by simp, _, _, tri3.drop, hs2, hr3⟩
  rw [if_neg h7]
  refine ok_false (by simpa using h7) ?_
  by_cases h8 : c = 8
  · rw [if_pos h8]
    refine ok_true (by simpa using h8) ?_
    refine ok_tld (Tr.refl tri1.v.th) hp (x := x) rfl ?_
    refine ok_bnd.2 (ok_mono (sender_spec' tri1.t.th hs (by omega) x) ?_)
    rintro _ w2 ⟨T2, C2, rfl, hs2⟩
    have tri2 := tri1.stepT C2
    refine ok_tld (Tr.refl tri2.v.th) hp (x := x) rfl ?_
    refine ok_bnd.2 (ok_mono (rsenderOf_spec tri2.u.th hs.1 (by omega) I x) ?_)
    rintro _ w3 ⟨U3, C3, rfl, hr3⟩
    have tri3 := tri2.stepU C3
    exact ok_ret.2 ⟨by simp, _, _, tri3.drop, hs2, hr3⟩
  rw [if_neg h8]
  refine ok_false (by simpa using h8) ?_
  by_cases h9 : c = 9
  · rw [if_pos h9]
    refine ok_true (by simpa using h9) ?_
    refine ok_tld (Tr.refl tri1.v.th) hp (x := x) rfl ?_
    refine ok_bnd.2 (ok_mono (method_spec tri1.t.th hs x) ?_)
    rintro _ w2 ⟨T2, C2, e2, rfl⟩
    subst e2
    have tri2 := tri1.stepT C2
    refine ok_tld (Tr.refl tri2.v.th) hp (x := x) rfl ?_
    refine ok_bnd.2 (ok_mono (rmethod_spec tri2.u.th (by omega) I x) ?_)
    rintro _ w3 ⟨U3, C3, e3, rfl⟩
    subst e3
    have tri3 := tri2.stepU C3
    exact ok_ret.2 ⟨by simp, _, _, tri3.drop, hs, hr⟩
  rw [if_neg h9]
  refine ok_false (by simpa using h9) ?_
  by_cases h10 : c = 10
  · rw [if_pos h10]
    refine ok_true (by simpa using h10) ?_
    refine ok_tld (Tr.refl tri1.v.th) hp (x := x) rfl ?_
    refine ok_tld (Tr.refl tri1.v.th) hp (x := n) rfl ?_
    refine ok_bnd.2 (ok_mono (slot_spec' tri1.t.th hs x n) ?_)
    rintro _ w2 ⟨T2, C2, e2, rfl⟩
    subst e2
    have tri2 := tri1.stepT C2
    refine ok_tld (Tr.refl tri2.v.th) hp (x := x) rfl ?_
    refine ok_tld (Tr.refl tri2.v.th) hp (x := n) rfl ?_
    refine ok_bnd.2 (ok_mono (rslot_spec tri2.u.th (by omega) I x n) ?_)
    rintro _ w3 ⟨U3, C3, e3, rfl⟩
    subst e3
    have tri3 := tri2.stepU C3
    exact ok_ret.2 ⟨by simp, _, _, tri3.drop, hs, hr⟩
  rw [if_neg h10]
  refine ok_false (by simpa using h10) ?_
  by_cases h11 : c = 11
  · rw [if_pos h11]
    refine ok_true (by simpa using h11) ?_
    refine ok_tld (Tr.refl tri1.v.th) hp (x := x) rfl ?_
    refine ok_tld (Tr.refl tri1.v.th) hp (x := n) rfl ?_
    refine ok_tld (Tr.refl tri1.v.th) hp (x := v) rfl ?_
    refine ok_bnd.2 (ok_mono (setSlot_spec tri1.t.th hs x n v) ?_)
    rintro _ w2 ⟨T2, C2, rfl, hs2⟩
    have tri2 := tri1.stepT C2
    refine ok_tld (Tr.refl tri2.v.th) hp (x := x) rfl ?_
    refine ok_tld (Tr.refl tri2.v.th) hp (x := n) rfl ?_
    refine ok_tld (Tr.refl tri2.v.th) hp (x := v) rfl ?_
    refine ok_bnd.2 (ok_mono (rsetSlot_spec tri2.u.th (by omega) I x n v) ?_)
    rintro _ w3 ⟨U3, C3, rfl, hr3⟩
    have tri3 := tri2.stepU C3
    exact ok_ret.2 ⟨by simp, _, _, tri3.drop, hs2, hr3⟩
  rw [if_neg h11]
  refine ok_false (by simpa using h11) ?_
  by_cases h12 : c = 12
  · rw [if_neg (show ¬ c = 13 by omega), if_neg (show ¬ c = 14 by omega), if_neg (show ¬ c = 15 by omega)]
    refine ok_true (by simpa using h12) ?_
    refine ok_tld (Tr.refl tri1.v.th) hp (x := x) rfl ?_
    refine ok_bnd.2 (ok_mono (lies_spec2 tri1.t.th hs x) ?_)
    rintro ⟨q1, q2⟩ w2 ⟨T2, C2, g1, g2, g3, g4, g7⟩
    have tri2 := tri1.stepT C2
    refine ok_tld (Tr.refl tri2.v.th) hp (x := x) rfl ?_
    refine ok_bnd.2 (ok_mono (rlies_spec tri2.u.th (by omega) I x) ?_)
    rintro ⟨q3, q4⟩ w3 ⟨U3, C3, e3, g5, k3, g6⟩
    subst e3
    have tri3 := tri2.stepU C3
    refine ok_bnd.2 (ok_mono (same_spec (g2.arr tri3.t.th) (mk_rl tri3.u.th g6)) ?_)
    rintro _ w4 ⟨hB4, rfl⟩
    have tri4 := tri3.stepV ((Tr.refl tri3.v.th).call hB4)
    have hlq : q1.len = (A.lies x).1.length := g2.len
    have hsm : (A.lies x).1.length ≤ 1048576 := by omega
    refine ok_mono (lies_loop (T := T) (n := 0) (b := 0) (show q1.len ≤ 1048576 by omega) (-78) _ tri4 g3 (by
      rcases g4 with h0 | ⟨b, M, k1, k2, k4, k5⟩
      · left; rw [hlq, h0]; rfl
      · exact .inr ⟨b, M, k1, k2, k4, by rw [hlq]; exact k5⟩)) ?_
    rintro _ w5 ⟨rfl, T5, tri5, k5⟩
    simp only at g1 g5
    exact ⟨by rw [g1, g5]; simp, T5, _, tri5, hs.grow k5, hr⟩
  refine ok_false (by simpa using h12) ?_
  by_cases h13 : c = 13
  · rw [if_pos h13]
    refine ok_true (by simpa using h13) ?_
    refine ok_tld (Tr.refl tri1.v.th) hp (x := x) rfl ?_
    refine ok_tld (Tr.refl tri1.v.th) hp (x := d) rfl ?_
    refine ok_bnd.2 (ok_mono (setSender_spec tri1.t.th hs x d fun _ => behind_does) ?_)
    rintro _ w2 ⟨T2, C2, rfl, hs2⟩
    have tri2 := tri1.stepT C2
    refine ok_tld (Tr.refl tri2.v.th) hp (x := x) rfl ?_
    refine ok_tld (Tr.refl tri2.v.th) hp (x := d) rfl ?_
    refine ok_bnd.2 (ok_mono (rsetSender_spec tri2.u.th hs.1 (by omega) I x d) ?_)
    rintro _ w3 ⟨U3, C3, rfl, hr3⟩
    have tri3 := tri2.stepU C3
    exact ok_ret.2 ⟨by simp, _, _, tri3.drop, hs2, hr3⟩
  rw [if_neg h13]
  refine ok_false (by simpa using h13) ?_
  by_cases h14 : c = 14
  · rw [if_pos h14]
    refine ok_true (by simpa using h14) ?_
    refine ok_tld (Tr.refl tri1.v.th) hp (x := x) rfl ?_
    refine ok_bnd.2 (ok_mono (switch_spec tri1.t.th hs x) ?_)
    rintro _ w2 ⟨T2, C2, rfl, hs2⟩
    have tri2 := tri1.stepT C2
    refine ok_tld (Tr.refl tri2.v.th) hp (x := x) rfl ?_
    refine ok_bnd.2 (ok_mono (rswitch_spec tri2.u.th (by omega) I x) ?_)
    rintro _ w3 ⟨U3, C3, rfl, hr3⟩
    have tri3 := tri2.stepU C3
    exact ok_ret.2 ⟨by simp, _, _, tri3.drop, hs2, hr3⟩
  rw [if_neg h14]
  refine ok_false (by simpa using h14) ?_
  by_cases h15 : c = 15
  · rw [if_pos h15]
    refine ok_true (by simpa using h15) ?_
    refine ok_tld (Tr.refl tri1.v.th) hp (x := x) rfl ?_
    refine ok_tld (Tr.refl tri1.v.th) hp (x := v) rfl ?_
    refine ok_bnd.2 (ok_mono (unwind_spec tri1.t.th hs x v) ?_)
    rintro _ w2 ⟨T2, C2, rfl, hs2⟩
    have tri2 := tri1.stepT C2
    refine ok_tld (Tr.refl tri2.v.th) hp (x := x) rfl ?_
    refine ok_tld (Tr.refl tri2.v.th) hp (x := v) rfl ?_
    refine ok_bnd.2 (ok_mono (runwind_spec tri2.u.th hs.1 (by omega) I x v) ?_)
    rintro _ w3 ⟨U3, C3, rfl, hr3⟩
    have tri3 := tri2.stepU C3
    exact ok_ret.2 ⟨by simp, _, _, tri3.drop, hs2, hr3⟩
  rw [if_neg h15]
  refine ok_false (by simpa using h15) ?_
  by_cases h16 : c = 16
  · refine ok_true (by simpa using h16) ?_
    refine ok_tld (Tr.refl tri1.v.th) hp (x := x) rfl ?_
    refine ok_bnd.2 (ok_mono (alive_spec tri1.t.th hs x) ?_)
    rintro _ w2 ⟨T2, C2, e2, rfl⟩
    subst e2
    have tri2 := tri1.stepT C2
    refine ok_tld (Tr.refl tri2.v.th) hp (x := x) rfl ?_
    refine ok_bnd.2 (ok_mono (ralive_spec tri2.u.th (by omega) I x) ?_)
    rintro _ w3 ⟨U3, C3, e3, rfl⟩
    subst e3
    have tri3 := tri2.stepU C3
    exact ok_ret.2 ⟨by simp, _, _, tri3.drop, hs, hr⟩
  refine ok_false (by simpa using h16) ?_
  by_cases h17 : c = 17
  · refine ok_true (by simpa using h17) ?_
    refine ok_bnd.2 (ok_mono (flush_spec tri1.t.th hs) ?_)
    rintro _ w2 ⟨T2, C2, hf2, S2, G2, I2, hA2, h0⟩
    have tri2 := tri1.stepT C2
    refine ok_bnd.2 (ok_mono (countI tri2.t.th hf2 I2) ?_)
    rintro _ w3 ⟨T3, C3, e3, rfl⟩
    subst e3
    have tri3 := tri2.stepT C3
    exact ok_ret.2 ⟨by rw [h0]; rfl, _, _, tri3.drop, ⟨hf2, S2, G2, I2, hA2⟩, hr⟩
  refine ok_false (by simpa using h17) ?_
  refine ok_bnd.2 (ok_mono (count_spec tri1.t.th hs) ?_)
  rintro ⟨r1, r2⟩ w2 ⟨T2, C2, e2, g1, g2, g3⟩
  subst e2
  have tri2 := tri1.stepT C2
  simp only at g1 g2 g3
  refine ok_drfP ?_
  refine ok_tld (Tr.refl tri2.u.th) I.stk (x := S.living) rfl ?_
  refine ok_ret.2 ⟨?_, _, _, tri2.drop, hs, hr⟩
  rw [I.living, g1, decide_eq_true (show r2 ≥ 0 from g2), decide_eq_true (show r2 ≤ (A.living : Int) from g3)]
  simp
end
end Go.Proofs.Ytckfidopkajpaaa

/-
  FramesDoes: the stack does as the reference does.
-/
namespace Go.Proofs.Ytckfidopkajpaaa
set_option linter.unusedVariables false
open Go.Sh Go.RowKit
set_option maxRecDepth 100000
section
variable {A : St}
theorem die_acts (k : Nat) : (A.die k).acts.length = A.acts.length := by
  unfold St.die
  split
  · exact turn_len
  · rfl
theorem push_acts (v : Int) : (A.push v).2.acts.length = A.acts.length := by
  unfold St.push
  split
  · rfl
  · split
    · rfl
    · exact turn_len
theorem back_acts (to : Option Nat) (v : Int) : (A.back to v).2.acts.length = A.acts.length := by
  unfold St.back
  simp only
  split
  · rw [push_acts]; rfl
  · rfl
theorem foldl_acts : ∀ (l : List Nat) (A : St), (l.foldl St.die A).acts.length = A.acts.length
  | [], _ => rfl
  | x :: l, A => by rw [List.foldl_cons, foldl_acts l, die_acts]
theorem name_acts (e : Option Nat) : (A.name e).2.acts.length = A.acts.length := by
  unfold St.name
  split
  · rfl
  · split <;> rfl
theorem answer_acts (c m v x d n : Int) (l : List Int) : (A.answer c m v x d n l).2.acts.length ≤ A.acts.length + 1 := by
  unfold St.answer
  have same : ∀ B : St, B.acts.length = A.acts.length → B.acts.length ≤ A.acts.length + 1 := fun B h => by omega
  by_cases h1 : c = 1
  · rw [if_pos h1]
    unfold St.call
    split
    · exact same _ rfl
    · split
      · exact same _ rfl
      · show (A.acts ++ [_]).length ≤ _
        rw [List.length_append]; simp
  rw [if_neg h1]
  by_cases h2 : c = 2
  · rw [if_pos h2]
    exact same _ (push_acts v)
  rw [if_neg h2]
  by_cases h3 : c = 3
  · rw [if_pos h3]
    refine same _ ?_
    unfold St.pop
    split
    · first | rfl | exact turn_len
    · split <;> first | rfl | exact turn_len
  rw [if_neg h3]
  by_cases h4 : c = 4
  · rw [if_pos h4]
    exact same _ rfl
  rw [if_neg h4]
  by_cases h5 : c = 5
  · rw [if_pos h5]
    refine same _ ?_
    unfold St.set
    split
    · first | rfl | exact turn_len
    · split <;> first | rfl | exact turn_len
  rw [if_neg h5]
  by_cases h6 : c = 6
  · rw [if_pos h6]
    refine same _ ?_
    unfold St.ret
    split
    · first | rfl | exact turn_len
    · rw [back_acts, die_acts]
  rw [if_neg h6]
  by_cases h7 : c = 7
  · rw [if_pos h7]
    exact same _ (name_acts _)
  rw [if_neg h7]
  by_cases h8 : c = 8
  · rw [if_pos h8]
    unfold St.senderOf
    split
    · exact same _ rfl
    · exact same _ (name_acts _)
  rw [if_neg h8]
  by_cases h9 : c = 9
  · rw [if_pos h9]
    exact same _ rfl
  rw [if_neg h9]
  by_cases h10 : c = 10
  · rw [if_pos h10]
    exact same _ rfl
  rw [if_neg h10]
  by_cases h11 : c = 11
  · rw [if_pos h11]
    refine same _ ?_
    unfold St.setSlot
    split
    · first | rfl | exact turn_len
    · split
      · first | rfl | exact turn_len
      · split <;> first | rfl | exact turn_len
  rw [if_neg h11]
  by_cases h13 : c = 13
  · rw [if_pos h13]
    refine same _ ?_
    unfold St.setSender
    split
    · first | rfl | exact turn_len
    · split
      · first | rfl | exact turn_len
      · split
        · first | rfl | exact turn_len
        · split
          · first | rfl | exact turn_len
          · split <;> first | rfl | exact turn_len
  rw [if_neg h13]
  by_cases h14 : c = 14
  · rw [if_pos h14]
    refine same _ ?_
    unfold St.switch
    split
    · first | rfl | exact turn_len
    · split <;> first | rfl | exact turn_len
  rw [if_neg h14]
  by_cases h15 : c = 15
  · rw [if_pos h15]
    refine same _ ?_
    unfold St.unwind
    split
    · first | rfl | exact turn_len
    · split
      · first | rfl | exact turn_len
      · split
        · rw [back_acts, foldl_acts]
        · first | rfl | exact turn_len
  rw [if_neg h15]
  exact same _ rfl
end
section
variable {O : Hp} {w0 w : World} {T : Hp} {U : Rp} {sa rb : Nat} {A : St}
/-- All so far, with how much has been named and called. -/
def Al (O : Hp) (w0 : World) (sa rb : Nat) (n : Nat) (w : World) : Prop := ∃ (A : St) (T : Hp) (U : Rp), Tri O w0 w T U (fun _ => none) ∧ Hs T sa A ∧ Rs U rb A ∧ A.named.length ≤ n ∧ A.acts.length ≤ n
theorem al_does {n : Nat} (h : Al O w0 sa rb n w) (hn : n ≤ 2050000000000) (c m v x d i : Int) {s : Sl} {l : List Int} (H : Arr w0.heap.size w0 s (nums .i64 l)) (hll : l.length ≤ 1048576) (hi : -9223372036854775808 ≤ i ∧ i ≤ 9223372036854775807) :
    Ok (f16_palaverlaw23_does (pt (some sa)) (pt (some rb)) (c, m, v, x, d, i, s)) w fun r w' => r = true ∧ Al O w0 sa rb (n + 1) w' := by
  obtain ⟨A, T, U, tri, hs, hr, h1, h2⟩ := h
  refine ok_mono (does_spec tri hs hr (by omega) (by omega) c m v x d i H hll hi) ?_
  rintro r w' ⟨rfl, T', U', tri', hs', hr'⟩
  have g1 := answer_named (A := A) c m v x d i l
  have g2 := answer_acts (A := A) c m v x d i l
  exact ⟨rfl, _, T', U', tri', hs', hr', by omega, by omega⟩
theorem arr_nil0 (w0 : World) : Arr w0.heap.size w0 (⟨none, 0, 0⟩ : Sl) (nums .i64 []) := arr_nil _ _
theorem looks_spec {n : Nat} (h : Al O w0 sa rb n w) (hn : n ≤ 2020000000000) : Ok (f17_palaverlaw23_looks (pt (some sa)) (pt (some rb))) w fun r w' => r = true ∧ Al O w0 sa rb (n + 1000000) w' := by
  unfold f17_palaverlaw23_looks
  refine ok_loop (fun (s : Int) w' => ∃ i : Nat, s = (i : Int) ∧ i ≤ 5000 ∧ Al O w0 sa rb (n + 30 * i) w') (fun s _ => ((5000 : Int) - s).toNat) ?_ _ _ ⟨0, rfl, by omega, h⟩
  rintro s w1 ⟨i, rfl, hi, ha⟩
  obtain ⟨A, T, U, tri, hs, ⟨S, L, I⟩, h1, h2⟩ := ha
  have ha : Al O w0 sa rb (n + 30 * i) w1 := ⟨A, T, U, tri, hs, ⟨S, L, I⟩, h1, h2⟩
  refine ok_drfP ?_
  refine ok_tld (Tr.refl tri.u.th) I.stk (x := S.named) rfl ?_
  have hnl := named_lt I
  have e1 : IntKind.wrap .i64 ((S.named.len : Int) + 1) = (A.named.length : Int) + 1 := by rw [hnl, wrapI_in (by omega)]
  rw [e1]
  by_cases hc : i ≤ A.named.length + 1 ∧ i < 5000
  · refine ok_true ?_ ?_
    · rw [decide_eq_true (show (i : Int) ≤ (A.named.length : Int) + 1 by omega), decide_eq_true (show (i : Int) < 5000 by omega)]; rfl
    clear h1 h2 tri hs I hnl e1
    refine ok_loop (fun (s : Int) w' => ∃ j : Nat, s = (j : Int) ∧ 8 ≤ j ∧ j ≤ 13 ∧ Al O w0 sa rb (n + 30 * i + (j - 8)) w') (fun s _ => ((13 : Int) - s).toNat) ?_ _ _ ⟨8, rfl, by omega, by omega, ha⟩
    rintro s w2 ⟨j, rfl, hj1, hj2, ha2⟩
    by_cases hj : j ≤ 12
    · refine ok_true (by simp only [decide_eq_true_eq]; omega) ?_
      refine ok_bnd.2 (ok_mono (Q := fun r w' => r = .inl () ∧ Al O w0 sa rb (n + 30 * i + (j + 1 - 8)) w') ?_ ?_)
      · by_cases hx : j = 11 ∨ j = 10
        · refine ok_true ?_ (ok_ret.2 ⟨rfl, ?_⟩)
          · rcases hx with rfl | rfl <;> rfl
          · obtain ⟨A, T, U, g1, g2, g3, g4, g5⟩ := ha2
            exact ⟨A, T, U, g1, g2, g3, by omega, by omega⟩
        · refine ok_false ?_ ?_
          · have h1 : ((j : Int) == 11) = false := by rw [beq_eq_false_iff_ne]; omega
            have h2 : ((j : Int) == 10) = false := by rw [beq_eq_false_iff_ne]; omega
            rw [h1, h2]; rfl
          refine ok_bnd.2 (ok_mono (al_does ha2 (by omega) (j : Int) 0 0 (i : Int) 0 0 (arr_nil0 w0) (by simp) (by omega)) ?_)
          rintro _ w3 ⟨rfl, ha3⟩
          refine ok_false rfl (ok_ret.2 ⟨rfl, ?_⟩)
          have : n + 30 * i + (j - 8) + 1 = n + 30 * i + (j + 1 - 8) := by omega
          rw [this] at ha3
          exact ha3
      rintro _ w3 ⟨rfl, ha3⟩
      refine ok_ret.2 ⟨⟨j + 1, ?_, by omega, by omega, ha3⟩, ?_⟩
      · rw [wrapI_in (by omega)]; simp
      · rw [wrapI_in (by omega)]; omega
    · refine ok_false (by simp only [decide_eq_false_iff_not]; omega) ?_
      refine ok_bnd.2 ?_
      refine ok_loop (fun (s : Int) w' => ∃ k : Nat, s = (k : Int) ∧ k ≤ 20 ∧ Al O w0 sa rb (n + 30 * i + 5 + k) w') (fun s _ => ((20 : Int) - s).toNat) ?_ _ _ ⟨0, rfl, by omega, ?_⟩
      · rintro s w3 ⟨k, rfl, hk, ha3⟩
        by_cases hk2 : k < 20
        · refine ok_true (by simp only [decide_eq_true_eq]; omega) ?_
          refine ok_bnd.2 (ok_mono (al_does ha3 (by omega) 10 0 0 (i : Int) 0 (k : Int) (arr_nil0 w0) (by simp) (by omega)) ?_)
          rintro _ w4 ⟨rfl, ha4⟩
          refine ok_false rfl (ok_ret.2 ⟨⟨k + 1, ?_, by omega, ha4⟩, ?_⟩)
          · rw [wrapI_in (by omega)]; simp
          · rw [wrapI_in (by omega)]; omega
        · refine ok_false (by simp only [decide_eq_false_iff_not]; omega) (ok_ret.2 ?_)
          refine ok_ret.2 ?_
          have e3 : IntKind.wrap .i64 ((i : Int) + 1) = ((i + 1 : Nat) : Int) := by rw [wrapI_in (by omega)]; omega
          rw [e3]
          refine ⟨⟨i + 1, rfl, by omega, ?_⟩, by omega⟩
          obtain ⟨A, T, U, g1, g2, g3, g4, g5⟩ := ha3
          exact ⟨A, T, U, g1, g2, g3, by omega, by omega⟩
      · obtain ⟨A, T, U, g1, g2, g3, g4, g5⟩ := ha2
        exact ⟨A, T, U, g1, g2, g3, by omega, by omega⟩
  · refine ok_false ?_ ?_
    · by_cases h5 : i < 5000
      · rw [decide_eq_false (show ¬ (i : Int) ≤ (A.named.length : Int) + 1 by omega)]; rfl
      · rw [decide_eq_false (show ¬ (i : Int) < 5000 by omega)]; cases decide ((i : Int) ≤ (A.named.length : Int) + 1) <;> rfl
    refine ok_bnd.2 (ok_bnd.2 (ok_mono (al_does ha (by omega) 18 0 0 0 0 0 (arr_nil0 w0) (by simp) (by omega)) ?_))
    rintro _ w2 ⟨rfl, ha2⟩
    refine ok_ret.2 (ok_ret.2 ⟨rfl, ?_⟩)
    obtain ⟨A, T, U, g1, g2, g3, g4, g5⟩ := ha2
    exact ⟨A, T, U, g1, g2, g3, by omega, by omega⟩
theorem does_true {x0 x1 x2 : Int} {x3 : Sl} (H3 : Held w (.sl shAct) x3) (hb3 : x3.len ≤ 2000000000000) :
    Ok (f4_palaverlaw23_FramesDoes x0 x1 x2 x3) w fun r w' => r = true ∧ Below w.heap.size w w' := by
  unfold f4_palaverlaw23_FramesDoes
  have hml : maxLen = 9223372036854775807 := by decide
  refine ok_bnd.2 (ok_mono (works_spec (w := w)) ?_)
  rintro _ w1 ⟨hB1, rfl⟩
  have hsz := hB1.size
  have tri0 : Tri (fun _ => none) w1 w1 (fun _ => none) (fun _ => none) (fun _ => none) := ⟨Tr.refl (th_none w1), Side.none _ _ _, Side.none _ _ _, fun _ _ => rfl, Side.none _ _ _, fun _ _ => rfl, fun _ _ => rfl⟩
  have bel : ∀ {O : Hp} {w2 : World} {T : Hp} {U : Rp} {V : Vp}, Tri O w1 w2 T U V → Below w.heap.size w w2 := by
    intro O w2 T U V tri
    have hb2 := tri.below
    exact hB1.trans ⟨hb2.os, hb2.tape, hb2.output, by have := hb2.size; omega, fun k hk => hb2.block k (by omega)⟩
  refine ok_bnd.2 (ok_mono (new_spec tri0.t.th x0 x1 x2) ?_)
  rintro r2 w2 ⟨T2, C2, h2⟩
  have tri2 := tri0.stepT C2
  refine ok_bnd.2 (ok_mono (rnew_spec tri2.u.th x0 x1 x2) ?_)
  rintro r3 w3 ⟨U3, C3, h3⟩
  have tri3 := tri2.stepU C3
  rcases h2 with ⟨hb2, _, rfl⟩ | ⟨hb2, sa, _, rfl, hs⟩
  · rcases h3 with ⟨_, _, rfl⟩ | ⟨hb3', _⟩
    · refine ok_false rfl (ok_true rfl (ok_ret.2 ⟨rfl, bel tri3⟩))
    · rw [hb2] at hb3'; cases hb3'
  rcases h3 with ⟨hb3', _⟩ | ⟨_, rb, rfl, hr⟩
  · rw [hb2] at hb3'; cases hb3'
  refine ok_false rfl (ok_false rfl ?_)
  refine ok_bnd.2 (ok_mono (new_spec tri3.o.th 1 16 1) ?_)
  rintro r4 w4 ⟨O4, C4, h4⟩
  have tri4 := tri3.stepO C4
  rcases h4 with ⟨hb4, _⟩ | ⟨_, so, _, rfl, ho⟩
  · rw [newBad_eq] at hb4
    exact absurd (of_decide_eq_true hb4) (by omega)
  refine ok_false rfl ?_
  have hal : Al O4 w1 sa rb 0 w4 := ⟨_, T2, U3, tri4, hs, hr, Nat.le_refl 0, Nat.le_refl 0⟩
  clear hs hr tri4 tri3 tri2 tri0 C2 C3 C4
  refine ok_loop (fun (s : Int) w' => ∃ j : Nat, s = (j : Int) ∧ j ≤ x3.len ∧ Al O4 w1 sa rb j w') (fun s _ => ((x3.len : Int) - s).toNat) ?_ _ _ ⟨0, rfl, Nat.zero_le _, hal⟩
  rintro s w5 ⟨j, rfl, hj, ha5⟩
  have bel5 : Below w.heap.size w w5 := by
    obtain ⟨A, T, U, tri, _⟩ := ha5
    exact bel tri
  by_cases hlt : j < x3.len
  · refine ok_true (by simp only [decide_eq_true_eq]; omega) ?_
    obtain ⟨b, o, c, ha, hbl, hbk, hel⟩ := held_at H3 (by decide) (by omega) (fun _ => rfl)
    obtain ⟨⟨a1, a2, a3, a4, a5, a6, s⟩, hy, hc⟩ := hel j hlt
    obtain ⟨y1, y2, y3, y4, y5, y6, y7⟩ := hy
    have hc6 : rdv .sl c (o + 7 * j + 6) = some s := rdv_sl (hc 6 (by decide))
    have hcA : rdv tyAct c (o + 7 * j) = some (a1, a2, a3, a4, a5, a6, s) := rdv_of (l := enc tyAct true (a1, a2, a3, a4, a5, a6, s)) rfl (by decide) hc rfl
    obtain ⟨l, hl, _⟩ := held_arr y7
    have hll : s.len = l.length := by have := hl.1; simpa using this
    refine ok_ixQ ha (by omega) (by omega) ?_
    rw [Int.toNat_natCast]
    refine ok_old bel5 hbl hbk (x := s) hc6 ?_
    by_cases hbig : s.len > 1048576
    · exact ok_true (by simp only [decide_eq_true_eq]; omega) (ok_ret.2 ⟨rfl, bel5⟩)
    refine ok_false (by simp only [decide_eq_false_iff_not]; omega) ?_
    refine ok_ixQ ha (by omega) (by omega) ?_
    rw [Int.toNat_natCast]
    refine ok_old0 bel5 hbl hbk (t := tyAct) (x := (a1, a2, a3, a4, a5, a6, s)) hcA ?_
    have ya : -9223372036854775808 ≤ (show Int from a6) ∧ (show Int from a6) ≤ 9223372036854775807 := wf_i64 y6
    have hl1 : Arr w1.heap.size w1 s (nums .i64 l) := arr_size (arr_below hl hB1)
    refine ok_bnd.2 (ok_mono (al_does ha5 (by omega) a1 a2 a3 a4 a5 a6 hl1 (by omega) ya) ?_)
    rintro _ w6 ⟨rfl, ha6⟩
    refine ok_false rfl (ok_ret.2 ⟨⟨j + 1, ?_, hlt, ha6⟩, ?_⟩)
    · rw [wrapI_in (by omega)]; simp
    · rw [wrapI_in (by omega)]; omega
  · refine ok_false (by simp only [decide_eq_false_iff_not]; omega) ?_
    refine ok_bnd.2 (ok_bnd.2 (ok_mono (looks_spec ha5 (by omega)) ?_))
    rintro _ w6 ⟨rfl, A, T, U, tri, hs, hr, _, _⟩
    refine ok_bnd.2 (ok_mono (this_spec tri.o.th ho (by show 0 ≤ _; omega)) ?_)
    rintro _ w7 ⟨O7, C7, rfl, ho7⟩
    have tri7 := tri.stepO C7
    have ho7 : Hs O7 so (St.new (16 : Int).toNat (1 : Int).toNat) := ho7
    refine ok_bnd.2 (ok_mono (count_spec tri7.o.th ho7) ?_)
    rintro ⟨n1, n2⟩ w8 ⟨O8, C8, _, e1, e2, e3⟩
    have tri8 := tri7.stepO C8
    have e0 : (St.new (16 : Int).toNat (1 : Int).toNat).living = 0 := rfl
    rw [e0] at e1 e3
    simp only at e1 e2 e3
    have e4 : n2 = 0 := by omega
    subst e4
    have e1 : n1 = 0 := e1
    subst e1
    exact ok_ret.2 (ok_ret.2 ⟨rfl, bel tri8⟩)
theorem does_is (x0 x1 x2 : Int) {x3 : Sl} (H3 : Held w (.sl shAct) x3) (hb3 : x3.len ≤ 2000000000000) (W : World) (hW : W = w := by rfl) : Ok (f4_palaverlaw23_FramesDoes x0 x1 x2 x3) W fun r w' => r = true ∧ Below W.heap.size W w' := by
  subst hW
  exact does_true H3 hb3
end
end Go.Proofs.Ytckfidopkajpaaa
