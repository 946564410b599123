/-
  Parts of the proof: ZUA, ZUB, ZUC, ZUD, ZUE. It states what the functions do; no further condition.
-/
import Derived.Test.YtkkdeljladihpaaGreatZSY
import Derived.Test.YtkkdeljladihpaaGreatZQE
import Derived.Test.YtkkdeljladihpaaGreatZPB
set_option linter.unusedVariables false
set_option linter.unusedSimpArgs false
/-
  The state as numbers: the row that comes out, and the cell that holds it.
-/
namespace Go.Proofs.YtkkdeljladihpaaGreat
open Go.Sh Go.RowKit X
set_option maxRecDepth 100000
/-- All but the row that comes out and its cell is kept. -/
def Kc (c : Nat) (T T' : Hp) : Prop := ∀ b p, T b = some p → b ≠ c → (∀ l, p ≠ .ints (.out 0) l) → T' b = some p
theorem Kc.refl (c : Nat) (T : Hp) : Kc c T T := fun _ _ h _ _ => h
theorem Kc.trans {c : Nat} {T1 T2 T3 : Hp} (h : Kc c T1 T2) (k : Kc c T2 T3) : Kc c T1 T3 := fun b p hb hc hne => k b p (h b p hb hc hne) hc hne
theorem Kc.ext {c : Nat} {T T' : Hp} (h : ∀ b p, T b = some p → T' b = some p) : Kc c T T' := fun b p hb _ _ => h b p hb
theorem Kc.put {c b : Nat} {T : Hp} {o : Ob} (h : T b = none) : Kc c T (put T b o) := .ext fun _ _ hb => put_new hb h
/-- The cell c holds a row, and the row is acc. -/
def Ou (T : Hp) (c : Nat) (acc : List Int) : Prop := ∃ s, T c = some (.box [slV s]) ∧ Rw T (Ob.ints (.out 0)) s acc
theorem Ou.ext {T T' : Hp} {c : Nat} {acc : List Int} (O : Ou T c acc) (h : ∀ b p, T b = some p → T' b = some p) : Ou T' c acc :=
  O.imp fun s ⟨h1, h2⟩ => ⟨h _ _ h1, h2.mono fun b L _ hb => h _ _ hb⟩
section
variable {w0 w : World} {T0 T : Hp} {sb c : Nat} {S : Sk} {L : List Sm} {A : St} {α β : Type} {Q : α → World → Prop} {acc : List Int}
theorem SInv.extB (I : SInv T sb S L A) {T' : Hp} (h : ∀ b p, T b = some p → (∀ k l, p ≠ .ints (.out k) l) → (∀ l, p ≠ .box l) → T' b = some p) : SInv T' sb S L A :=
  { I with sch := h _ _ I.sch (by simp) (by simp), procs := I.procs.mono fun _ _ _ hc => h _ _ hc (by simp) (by simp), sems := I.sems.mono fun _ _ _ hc => h _ _ hc (by simp) (by simp), sem := fun i s r hs hr => ⟨(I.sem i s r hs hr).1, (I.sem i s r hs hr).2.mono fun _ _ _ hc => h _ _ hc (by simp) (by simp)⟩, queue := fun p q hq => (I.queue p q hq).mono fun _ _ _ hc => h _ _ hc (by simp) (by simp), timers := I.timers.mono fun _ _ _ hc => h _ _ hc (by simp) (by simp) }
theorem SInv.kc (I : SInv T sb S L A) {T' : Hp} {l0 : List Value} (hc : T c = some (.box l0)) (K : Kc c T T') : SInv T' sb S L A :=
  I.extB fun b p hb hne hnb => K b p hb (by rintro rfl; rw [hc] at hb; cases hb; exact hnb _ rfl) (hne 0)
theorem Kc.rw {A' : Type} {mk : List A' → Ob} {T' : Hp} (K : Kc c T T') {l0 : List Value} (hc : T c = some (.box l0)) {s : Sl} {l : List A'} (h : Rw T mk s l) (h1 : ∀ M l, mk M ≠ .box l) (h2 : ∀ M l, mk M ≠ .ints (.out 0) l) : Rw T' mk s l :=
  h.mono fun b M _ hb => K _ _ hb (by rintro rfl; rw [hc, Option.some.injEq] at hb; exact h1 _ _ hb.symm) (h2 _)
theorem ok_outA (C : Tr en w0 T0 w T) {s : Sl} (hc : T c = some (.box [slV s])) (hr : Rw T (Ob.ints (.out 0)) s acc) {x : Value} {k : Nat} {ys : List Int} (K : Src Tryz.prog 1 28 x k (ys.flatMap iV) w) (hl : acc.length + ys.length ≤ 1000000000) {f : Sl → M α}
    (hq : ∀ r w' T', Tr en w0 T0 w' T' → Rw T' (Ob.ints (.out 0)) r (acc ++ ys) → T' c = some (.box [slV s]) → Kc c T T' → Ok (f r) w' Q) : Ok (bnd (runV Tryz.prog .sl (Builtin.append_ #[28, 28] 28 #[.slice s.a s.len s.cap, x])) f) w Q :=
  ok_appI C hr K hl fun r w' T' C' hr' hT => hq r w' T' C' hr' (hT _ _ hc (by simp)) fun b p hb _ hne => hT b p hb hne
theorem ok_outW (C : Tr en w0 T0 w T) {s r : Sl} (hc : T c = some (.box [slV s])) (hr : Rw T (Ob.ints (.out 0)) r acc) {f : Unit → M α} (hq : ∀ w' T', Tr en w0 T0 w' T' → Ou T' c acc → Kc c T T' → Ok (f ()) w' Q) : Ok (bnd (wrs ⟨c, 0, none⟩ 0 [.slice r.a r.len r.cap]) f) w Q :=
  ok_twr0 C (.box [slV r]) hc (by simp [en]) rfl rfl fun w' C' => hq w' _ C' ⟨r, put_eq _ _ _, hr.mono fun b L h1 h2 => put_other h2 hc (by simp)⟩ fun b p hb hne _ => by rw [put_ne _ hne]; exact hb
/-- Some numbers at once. -/
theorem ok_twoI (C : Tr en w0 T0 w T) (o : Ow) {m n : Int} {f : Sl → M α} (hq : ∀ b w', T b = none → Tr en w0 T0 w' (put T b (.ints o [m, n])) → Rw (put T b (.ints o [m, n])) (Ob.ints o) ⟨some ⟨b, 0, none⟩, 2, 2⟩ [m, n] → Ok (f ⟨some ⟨b, 0, none⟩, 2, 2⟩) w' Q) : Ok (bnd (runV Tryz.prog .sl (Instr.buildSlice 28 2 #[(0, .int .i64 m), (1, .int .i64 n)])) f) w Q := by
  refine ok_bnd.2 (ok_buildL2 slt31 _ _ rfl rfl ?_)
  exact hq _ _ C.none_at (C.alloc (.ints o [m, n]) 3) ⟨rfl, Nat.le_refl _, by show 2 ≤ maxLen; decide, .inr ⟨_, [m, n], rfl, put_eq _ _ _, rfl, rfl⟩⟩
theorem ok_buildL3 {P : Program} {T e : TypeId} {z : Value} {by_ : Nat} (SL : SlT P T e z by_) (v0 v1 v2 : Value) (h0 : v0.cells = #[v0]) (h1 : v1.cells = #[v1]) (h2 : v2.cells = #[v2]) {Q : Sl → World → Prop} (hq : Q ⟨some ⟨w.heap.size, 0, none⟩, 3, 3⟩ (w.alloc (.cells [v0, v1, v2].toArray e))) :
    Ok (runV P .sl (Instr.buildSlice T 3 #[(0, v0), (1, v1), (2, v2)])) w Q := by
  obtain ⟨i, hi, hs, hz, hb⟩ := SL.info
  refine ok_runV (v := .slice (some ⟨w.heap.size, 0, none⟩) 3 3) (w' := w.alloc (.cells [v0, v1, v2].toArray e)) ?_ rfl hq
  simp [Instr.buildSlice, run_underlying SL.under, sizeOf, typeInfo, zeroValue, hi, hz, hs, Instr.fill, newRow, SL.cells]
  rw [show (Array.range 3) = #[0, 1, 2] from by decide]
  simp [h0, h1, h2]
theorem ok_threeI (C : Tr en w0 T0 w T) (o : Ow) {l m n : Int} {f : Sl → M α} (hq : ∀ b w', T b = none → Tr en w0 T0 w' (put T b (.ints o [l, m, n])) → Rw (put T b (.ints o [l, m, n])) (Ob.ints o) ⟨some ⟨b, 0, none⟩, 3, 3⟩ [l, m, n] → Ok (f ⟨some ⟨b, 0, none⟩, 3, 3⟩) w' Q) : Ok (bnd (runV Tryz.prog .sl (Instr.buildSlice 28 3 #[(0, .int .i64 l), (1, .int .i64 m), (2, .int .i64 n)])) f) w Q := by
  refine ok_bnd.2 (ok_buildL3 slt31 _ _ _ rfl rfl rfl ?_)
  exact hq _ _ C.none_at (C.alloc (.ints o [l, m, n]) 3) ⟨rfl, Nat.le_refl _, by show 3 ≤ maxLen; decide, .inr ⟨_, [l, m, n], rfl, put_eq _ _ _, rfl, rfl⟩⟩
/-- One number more, two more. -/
theorem ok_out1 (C : Tr en w0 T0 w T) {s : Sl} (hc : T c = some (.box [slV s])) (hr : Rw T (Ob.ints (.out 0)) s acc) (hl : acc.length + 1 ≤ 1000000000) {n : Int} {f : Unit → M α} (hq : ∀ w' T', Tr en w0 T0 w' T' → Ou T' c (acc ++ [n]) → Kc c T T' → Ok (f ()) w' Q) :
    Ok (bnd (runV Tryz.prog .sl (Instr.buildSlice 28 1 #[(0, .int .i64 n)])) fun (v : Sl) => bnd (runV Tryz.prog .sl (Builtin.append_ #[28, 28] 28 #[.slice s.a s.len s.cap, .slice v.a v.len v.cap])) fun (r : Sl) => bnd (wrs ⟨c, 0, none⟩ 0 [.slice r.a r.len r.cap]) f) w Q := by
  refine ok_oneI C (.out 9) fun b w1 hb C1 R1 => ?_
  refine ok_outA C1 (put_new hc hb) (hr.mono fun b' L h1 h2 => put_new h2 hb) (srcI C1.th R1) (by simpa using hl) fun r w2 T2 C2 R2 hc2 K2 => ?_
  exact ok_outW C2 hc2 R2 fun w3 T3 C3 O3 K3 => hq w3 T3 C3 O3 ((Kc.put hb).trans (K2.trans K3))
theorem ok_out2 (C : Tr en w0 T0 w T) {s : Sl} (hc : T c = some (.box [slV s])) (hr : Rw T (Ob.ints (.out 0)) s acc) (hl : acc.length + 2 ≤ 1000000000) {m n : Int} {f : Unit → M α} (hq : ∀ w' T', Tr en w0 T0 w' T' → Ou T' c (acc ++ [m, n]) → Kc c T T' → Ok (f ()) w' Q) :
    Ok (bnd (runV Tryz.prog .sl (Instr.buildSlice 28 2 #[(0, .int .i64 m), (1, .int .i64 n)])) fun (v : Sl) => bnd (runV Tryz.prog .sl (Builtin.append_ #[28, 28] 28 #[.slice s.a s.len s.cap, .slice v.a v.len v.cap])) fun (r : Sl) => bnd (wrs ⟨c, 0, none⟩ 0 [.slice r.a r.len r.cap]) f) w Q := by
  refine ok_twoI C (.out 9) fun b w1 hb C1 R1 => ?_
  refine ok_outA C1 (put_new hc hb) (hr.mono fun b' L h1 h2 => put_new h2 hb) (srcI C1.th R1) (by simpa using hl) fun r w2 T2 C2 R2 hc2 K2 => ?_
  exact ok_outW C2 hc2 R2 fun w3 T3 C3 O3 K3 => hq w3 T3 C3 O3 ((Kc.put hb).trans (K2.trans K3))
def qL (l : List Nat) : List Int := (l.length : Int) :: ns l
/-- A queue, its length ahead. -/
theorem queue_out (C : Tr en w0 T0 w T) (O : Ou T c acc) {o : Ow} (ho : o ≠ .out 0) {x : Sl} {l : List Nat} (hx : Rw T (Ob.ints o) x (ns l)) (hl : acc.length + l.length + 1 ≤ 1000000000) {f : Unit → M α}
    (hq : ∀ w' T', Tr en w0 T0 w' T' → Ou T' c (acc ++ qL l) → Kc c T T' → Ok (f ()) w' Q) : Ok (bnd (f43_State_1 x ⟨c, 0, none⟩) f) w Q := by
  obtain ⟨s, hc, hr⟩ := O
  unfold f43_State_1
  simp only [bnd_as, bnd_ret]
  refine ok_tld0 C hc (x := s) (rdv_sl rfl) ?_
  have hlen := hx.len
  rw [ns_length] at hlen
  refine ok_out1 C hc hr (by omega) fun w1 T1 C1 O1 K1 => ?_
  have hx1 : Rw T1 (Ob.ints o) x (ns l) := K1.rw hc hx (by simp) (by simpa using ho)
  obtain ⟨s1, hc1, hr1⟩ := O1
  refine ok_tld0 C1 hc1 (x := s1) (rdv_sl rfl) ?_
  refine ok_outA C1 hc1 hr1 (srcI C1.th hx1) (by rw [ns_length]; simp; omega) fun r w2 T2 C2 R2 hc2 K2 => ?_
  refine ok_outW C2 hc2 R2 fun w3 T3 C3 O3 K3 => ?_
  have e : acc ++ [(x.len : Int)] ++ ns l = acc ++ qL l := by rw [hlen]; simp [qL]
  rw [e] at O3
  exact hq w3 T3 C3 O3 (K1.trans (K2.trans K3))
end
theorem slt53 : ∀ {w : World} {Q : Sl → World → Prop} (hq : Q ⟨some ⟨w.heap.size, 0, none⟩, 0, 0⟩ (w.alloc (.cells #[] 79))), Ok (runV Tryz.prog .sl (Instr.buildSlice 65 0 #[])) w Q := by
  intro w Q hq
  obtain ⟨i, zv, h1, h2, h3, h4, h5⟩ := row53.inf
  refine ok_runV (v := .slice (some ⟨w.heap.size, 0, none⟩) 0 0) (w' := w.alloc (.cells #[] 79)) ?_ rfl hq
  simp [Instr.buildSlice, run_underlying row53.und, sizeOf, typeInfo, zeroValue, h1, h2, h3, h4, h5, Instr.fill, newRow]
  rw [show (Array.range 0) = #[] from by decide, Array.map_empty]
section
variable {w0 w : World} {T0 T : Hp} {sb c : Nat} {S : Sk} {L : List Sm} {A : St} {α β : Type} {Q : α → World → Prop} {acc : List Int}
theorem sort_nil {s : Sl} (hs : s.len = 0) {f : Unit → M α} (hq : Ok (f ()) w Q) : Ok (bnd (f45_SortFunc s ()) f) w Q := by
  unfold f45_SortFunc
  rw [hs]
  have e : IntKind.wrap .u64 ((0 : Nat) : Int) = 0 := by rw [wrapU]; omega
  rw [e]
  simp only [bnd_as, bnd_ret]
  have e0 : f83_bits_Len 0 = ret 0 := by kernel_rfl
  rw [e0, bnd_ret]
  unfold f82_pdq
  rw [hs]
  show Ok (bnd (f82_pdqsort (pdqN 0) s 0 ((0 : Nat) : Int) 0 ()) f) w Q
  unfold f82_pdqsort
  rw [loopM_eq]
  simp only [bnd_as]
  refine ok_tB rfl ?_
  unfold f94_insertion
  rw [loopM_eq]
  simp only [bnd_as, bnd_ret]
  refine ok_fB rfl ?_
  simp only [bnd_ret]
  exact hq
end
end Go.Proofs.YtkkdeljladihpaaGreat

/-
  The state as numbers: the timers, cloned and sorted.
-/
namespace Go.Proofs.YtkkdeljladihpaaGreat
open Go.Sh Go.RowKit X
set_option maxRecDepth 100000
section
variable {w0 w : World} {T0 T : Hp} {sb c : Nat} {S : Sk} {L : List Sm} {A : St} {α β : Type} {Q : α → World → Prop} {acc : List Int}
theorem cloneT_spec (C : Tr en w0 T0 w T) {x : Sl} {l : List Tm} (hx : Rx T Ob.tms x l) (hl : l.length ≤ 4096) {f : Sl → Go.Sh.M α}
    (hq : ∀ r w' T', Tr en w0 T0 w' T' → Rw T' Ob.tms r l → (∀ b p, T b = some p → T' b = some p) → (∀ b, r.a = some ⟨b, 0, none⟩ → T b = none) → Ok (f r) w' Q) : Ok (bnd (f44_Clonetm x) f) w Q := by
  unfold f44_Clonetm
  have hml : maxLen = 9223372036854775807 := by decide
  have hlen := hx.len; have hle := hx.le
  cases hs : x.a with
  | none =>
    have h0 : l = [] := by
      rcases hx.at_ with ⟨h1, h2⟩ | ⟨b, M, h1, _⟩
      · exact List.eq_nil_of_length_eq_zero (by omega)
      · rw [hs] at h1; cases h1
    subst h0
    exact ok_tB rfl (ok_retB (hq _ w T C (rw_nil _ _) (fun _ _ h => h) fun b h => by cases h))
  | some a =>
    refine ok_fB rfl ?_
    rw [← hs]
    simp only [bnd_as, bnd_ret]
    refine ok_bnd.2 (slt53 ?_)
    have C1 := C.alloc (.tms []) 79
    have hno : T w.heap.size = none := C.none_at
    have hr : Rw (put T w.heap.size (.tms [])) Ob.tms ⟨some ⟨w.heap.size, 0, none⟩, 0, 0⟩ [] := ⟨rfl, Nat.le_refl _, Nat.zero_le _, .inr ⟨w.heap.size, [], rfl, put_eq _ _ _, rfl, rfl⟩⟩
    have e : (en (.tms [])).toArray = #[] := rfl
    rw [e] at C1
    have hx1 : Rx (put T w.heap.size (.tms [])) Ob.tms x l := hx.mono fun b L _ hb => put_new hb hno
    have K := Rx.src row53 (en := en) (mk := Ob.tms) (fun _ => rfl) C1.th hx1
    refine ok_appR C1 row53 (mk := Ob.tms) (fun _ => rfl) hr K (by simp; omega) (by simp; omega) fun r w2 T2 C2 hr2 hT => ?_
    rw [List.nil_append] at hr2
    refine hq r w2 T2 C2 hr2 (fun b p hb => ?_) fun b hb => ?_
    rotate_left
    · rcases hT with ⟨rfl, rfl, _⟩ | ⟨fb, M, rfl, hra, hfb⟩
      · simp only [Option.some.injEq, Addr.mk.injEq, and_true] at hb
        rw [← hb]; exact hno
      · rw [hra] at hb
        simp only [Option.some.injEq, Addr.mk.injEq, and_true] at hb
        subst hb
        rcases hfb with h0 | ⟨h9, _⟩
        · cases hT : T fb with
          | none => rfl
          | some p => rw [put_new hT hno] at h0; cases h0
        · simp only [Option.some.injEq, Addr.mk.injEq, and_true] at h9
          rw [← h9]; exact hno
    have hb1 : put T w.heap.size (.tms []) b = some p := put_new hb hno
    rcases hT with ⟨rfl, _, _⟩ | ⟨fb, M, rfl, hra, hfb⟩
    · exact hb1
    rcases hfb with h0 | ⟨h9, _⟩
    · exact put_new hb1 h0
    · simp only [Option.some.injEq, Addr.mk.injEq, and_true] at h9
      rw [put_ne]
      · exact hb1
      · rintro rfl
        rw [← h9] at hb
        rw [hno] at hb; cases hb
theorem sorted_spec (C : Tr en w0 T0 w T) {x : Sl} {l : List Tm} (hx : Rx T Ob.tms x l) (hl : l.length ≤ 4096) {f : Sl → Go.Sh.M α}
    (hq : ∀ r w' T' v, Tr en w0 T0 w' T' → Rw T' Ob.tms r v → v.Perm l → v.Pairwise (fun x y => St.lt y x = false) → (∀ b p, T b = some p → T' b = some p) → Ok (f r) w' Q) : Ok (bnd (f44_Clonetm x) fun (r : Sl) => bnd (f45_SortFunc r ()) fun (_ : Unit) => f r) w Q := by
  refine cloneT_spec C hx hl fun r w1 T1 C1 R1 hT1 hn1 => ?_
  have hrl := R1.len
  by_cases h0 : l = []
  · subst h0
    exact sort_nil hrl (hq r w1 T1 [] C1 R1 (List.Perm.refl _) List.Pairwise.nil hT1)
  have hlp := List.length_pos_iff.2 h0
  obtain ⟨b, M, g1, g2, g3, g4⟩ := R1.blk hlp
  have hle := R1.le
  refine sort_spec C1 g1 g2 (by omega) (by omega) (by omega) fun M' w2 hM hp hs C2 => ?_
  rw [hrl, g4] at hp
  rw [hrl] at hs
  refine hq r w2 _ (M'.take l.length) C2 ⟨by rw [List.length_take, hM]; omega, hle, R1.max, .inr ⟨b, M', g1, put_eq _ _ _, by omega, ?_⟩⟩ hp hs fun b' p hb' => ?_
  · rw [List.length_take, Nat.min_eq_left (by omega)]
  · rw [put_ne _ (fun e => by rw [e] at hb'; rw [hn1 b g1] at hb'; cases hb')]
    exact hT1 _ _ hb'
end
end Go.Proofs.YtkkdeljladihpaaGreat

/-
  The state as numbers: the walk.
-/
namespace Go.Proofs.YtkkdeljladihpaaGreat
open Go.Sh Go.RowKit X
set_option maxRecDepth 100000
def prL (p : Pr) : List Int := [p.prio, p.standing]
def smL (s : Int × List Nat) : List Int := s.1 :: qL s.2
def tmL (t : Tm) : List Int := [t.time, t.sem]
def evK : Nat → List Int → List Int
  | _, [] => []
  | i, n :: r => (if n > 0 then [(i : Int), n] else []) ++ evK (i + 1) r
theorem evK_snoc : ∀ (l : List Int) (i : Nat) (n : Int), evK i (l ++ [n]) = evK i l ++ (if n > 0 then [((i + l.length : Nat) : Int), n] else [])
  | [], i, n => by simp [evK]
  | x :: r, i, n => by
    have ih := evK_snoc r (i + 1) n
    simp only [List.cons_append, evK, ih, List.append_assoc, List.length_cons]
    rw [show i + 1 + r.length = i + (r.length + 1) from by omega]
theorem evK_len : ∀ (l : List Int) (i : Nat), (evK i l).length ≤ 2 * l.length ∧ (evK i l).length % 2 = 0
  | [], i => by simp [evK]
  | x :: r, i => by
    have ih := evK_len r (i + 1)
    simp only [evK, List.length_append, List.length_cons]
    split <;> simp <;> omega
/-- The queues from p on. -/
def qsL (A : St) : Nat → List Int
  | 0 => []
  | p + 1 => qsL A p ++ qL (A.queues (p + 1))
def headL (A : St) : List Int := [A.now, (A.active : Int), (A.procs.length : Int)] ++ A.procs.flatMap prL ++ [(A.sems.length : Int)] ++ A.sems.flatMap smL ++ qsL A 16
def stateL (A : St) (v : List Tm) : List Int := headL A ++ [(v.length : Int)] ++ v.flatMap tmL ++ [(((evK 0 A.events).length / 2 : Nat) : Int)] ++ evK 0 A.events
/-- Numbers beside each other. -/
def aggN : Nat → Ty
  | 0 => .int .i64
  | n + 1 => .pair (.int .i64) (aggN n)
def tupN : (n : Nat) → List Int → (aggN n).den
  | 0, l => (l.headD 0 : Int)
  | n + 1, l => ((l.headD 0 : Int), tupN n l.tail)
def flatN : (n : Nat) → (aggN n).den → List Value
  | 0, x => [.int .i64 (x : Int)]
  | n + 1, x => .int .i64 x.1 :: flatN n x.2
theorem flat_tupN : ∀ (n : Nat) (l : List Int), l.length = n + 1 → flatN n (tupN n l) = l.map (.int .i64)
  | 0, l, h => by
    match l, h with
    | [x], _ => rfl
  | n + 1, l, h => by
    match l, h with
    | x :: r, h => 
      have ih := flat_tupN n r (by simpa using h)
      show Value.int .i64 x :: flatN n (tupN n r) = _
      rw [ih]; rfl
theorem size_aggN : ∀ n, (aggN n).size = n + 1
  | 0 => rfl
  | n + 1 => by
    show 1 + (aggN n).size = _
    rw [size_aggN n]; omega
theorem dec_aggN : ∀ (n : Nat) (l : List Int) (r : List Value), l.length = n + 1 → dec (aggN n) true (l.map (.int .i64) ++ r) = some (tupN n l, r)
  | 0, l, r, h => by
    match l, h with
    | [x], _ => rfl
  | n + 1, l, r, h => by
    match l, h with
    | x :: l', h =>
      have ih := dec_aggN n l' r (by simpa using h)
      simp only [aggN, List.map_cons, List.cons_append]
      have e1 : ∀ R : List Value, dec (.int .i64) true (Value.int .i64 x :: R) = some (x, R) := fun R => by
        simp only [dec, dInt]; rfl
      unfold dec
      rw [e1]
      simp only [ih]
      rfl
section
variable {w0 w : World} {T0 T : Hp} {sb c : Nat} {S : Sk} {L : List Sm} {A : St} {α β : Type} {Q : α → World → Prop} {acc : List Int}
theorem ok_tbox (C : Tr en w0 T0 w T) {e : TypeId} {vs us : List Value} {f : Addr → Go.Sh.M α} (hn : vs.length = us.length) (ha : us.all single = true) (hq : ∀ b w', T b = none → Tr en w0 T0 w' (put T b (.box us)) → Ok (f ⟨b, 0, none⟩) w' Q) :
    Ok (bnd (newC e vs) fun (p : Addr) => bnd (wrs p 0 us) fun _ => f p) w Q := by
  refine ok_tnew C (.box vs) rfl fun b w1 hb C1 => ?_
  refine ok_twr0 C1 (.box us) (put_eq _ _ _) (by show 0 + us.length ≤ vs.length; omega) ha ?_ fun w2 C2 => ?_
  · show spl vs 0 us = us
    unfold spl
    rw [List.take_zero, List.nil_append, List.drop_of_length_le (by omega), List.append_nil]
  · rw [put_put] at C2; exact hq b w2 hb C2
theorem ok_rowld {A' : Type} {g : A' → List Value} {n : Nat} {mk : List A' → Ob} (C : Tr en w0 T0 w T) (hg : ∀ a, (g a).length = n) (hmk : ∀ l, en (mk l) = l.flatMap g) {s : Sl} {l : List A'} (h : Rw T mk s l) {i : Nat} {x : A'} (hx : l[i]? = some x) {t : Ty} {v : t.den} (ht : t.size ≤ n) (hv : rdv t (g x).toArray 0 = some v) {y : Int} (hy : y = i) {f : t.den → Go.Sh.M α} (hq : Ok (f v) w Q) :
    Ok (bnd (ix n s y) fun (p : Addr) => bnd (ld t p) f) w Q := by
  have hi : i < l.length := by
    rcases Nat.lt_or_ge i l.length with h | h
    · exact h
    · rw [List.getElem?_eq_none h] at hx; cases hx
  obtain ⟨b, M, g1, g2, g3, g4⟩ := h.blk (by omega)
  subst hy
  refine ok_ixN g1 (by omega) (by rw [h.len]; omega) ?_
  have hM : M[i]? = some x := by rw [← List.getElem?_take_of_lt hi, g4]; exact hx
  refine ok_tld0 C g2 (x := v) ?_ hq
  rw [hmk, Int.toNat_natCast]
  exact flat_rdv (k := 0) hg hM (by omega) hv
theorem rd_events (hl : S.events.length = 64) (hq : S.queues.length = 17) : rdv (.agg (aggN 63)) (en (.sch S)).toArray (0 + 23) = some (tupN 63 S.events) := by
  have hz : (Ty.agg (aggN 63)).size = 64 := size_aggN 63
  refine rdv_of (l := S.events.map (.int .i64)) (by rw [hz]; simpa using hl) (by omega) (fun k hk => ?_) ?_
  · show (Sk.en S).toArray[0 + 23 + k]? = _
    rw [List.getElem?_toArray]
    unfold Sk.en
    have hL : ([Value.int .i64 S.now, .int .i64 S.active, slV S.procs, slV S.sems] ++ S.queues.map slV ++ [slV S.timers, .int .i64 S.made]).length = 23 := by simp [hq]
    rw [List.getElem?_append_right (by omega), hL]
    congr 1; omega
  · unfold decs
    have := dec_aggN 63 S.events [] hl
    rw [List.append_nil] at this
    have e : dec (Ty.agg (aggN 63)) true (S.events.map (.int .i64)) = some (tupN 63 S.events, []) := by
      rw [← this]; simp only [dec]
    rw [e]
theorem ok_ixEv {l : List Int} {i : Nat} {n : Int} (h : l[i]? = some n) (hi : i < 64) {vs : List Value} (hv : vs = l.map (.int .i64)) {y : Int} (hy : y = i) {f : Int → Go.Sh.M α} (hq : Ok (f n) w Q) : Ok (bnd (ixG (.int .i64) vs 64 y) f) w Q := by
  subst hv; subst hy
  unfold ixG
  have e : (bif decide (0 ≤ (i : Int)) && decide ((i : Int) < ((64 : Nat) : Int)) then match (l.map (Value.int .i64))[(i : Int).toNat]? with
    | some v => optM (dec1 (.int .i64) v)
    | none => fail
    else fail : Go.Sh.M Int) = ret n := by
    have h1 : (decide (0 ≤ (i : Int)) && decide ((i : Int) < ((64 : Nat) : Int))) = true := by simp; omega
    rw [h1, cond_true, Int.toNat_natCast, List.getElem?_map, h]
    rfl
  have hq' := ok_bnd.2 (ok_ret.2 hq)
  rw [← e] at hq'
  exact hq'
end
end Go.Proofs.YtkkdeljladihpaaGreat

/-
  The state as numbers: the walk through State.
-/
namespace Go.Proofs.YtkkdeljladihpaaGreat
open Go.Sh Go.RowKit X
set_option maxRecDepth 100000
theorem flat_take {A' B' : Type} (g : A' → List B') {l : List A'} {i : Nat} (h : i < l.length) : (l.take (i + 1)).flatMap g = (l.take i).flatMap g ++ g l[i] := by
  rw [List.take_succ_eq_append_getElem h, List.flatMap_append, List.flatMap_cons, List.flatMap_nil, List.append_nil]
/-- All is kept but rows that came out. -/
def Ko (T T' : Hp) : Prop := ∀ b p, T b = some p → (∀ k l, p ≠ .ints (.out k) l) → T' b = some p
theorem Ko.kc {T T1 T2 : Hp} {c : Nat} (h : Ko T T1) (hc : T c = none) (k : Kc c T1 T2) : Ko T T2 := fun b p hb hne => k b p (h b p hb hne) (by rintro rfl; rw [hc] at hb; cases hb) (hne 0)
theorem Ko.ext {T T1 T2 : Hp} (h : Ko T T1) (k : ∀ b p, T1 b = some p → T2 b = some p) : Ko T T2 := fun b p hb hne => k _ _ (h b p hb hne)
theorem Ko.ext' {T T1 T2 : Hp} (h : Ko T T1) {k : Nat} (k : ∀ b p, T1 b = some p → (∀ l, p ≠ .ints (.out k) l) → T2 b = some p) : Ko T T2 := fun b p hb hne => k _ _ (h b p hb hne) (hne _)
section
variable {w0 w : World} {T0 T : Hp} {sb c : Nat} {S : Sk} {L : List Sm} {A : St} {α β : Type} {Q : α → World → Prop} {acc : List Int}
theorem SInv.ko (I : SInv T sb S L A) {T' : Hp} (h : Ko T T') : SInv T' sb S L A := I.extO h
theorem row_get {A' : Type} {l : List A'} {i : Nat} (h : i < l.length) : l[i]? = some l[i] := List.getElem?_eq_getElem h
theorem prL_len (l : List Pr) : (l.flatMap prL).length = 2 * l.length := flat_length' l
where flat_length' : ∀ l : List Pr, (l.flatMap prL).length = 2 * l.length
  | [] => rfl
  | x :: r => by rw [List.flatMap_cons, List.length_append, flat_length' r]; simp [prL]; omega
theorem tmL_len : ∀ l : List Tm, (l.flatMap tmL).length = 2 * l.length
  | [] => rfl
  | x :: r => by rw [List.flatMap_cons, List.length_append, tmL_len r]; simp [tmL]; omega
theorem qL_len (l : List Nat) : (qL l).length = l.length + 1 := by simp [qL, ns_length]
theorem smL_len {n : Nat} : ∀ l : List (Int × List Nat), (∀ s ∈ l, s.2.length ≤ n) → (l.flatMap smL).length ≤ (n + 2) * l.length
  | [], _ => by simp
  | x :: r, h => by
    have h1 := smL_len r fun s hs => h s (List.mem_cons_of_mem _ hs)
    have h2 := h x List.mem_cons_self
    rw [List.flatMap_cons, List.length_append]
    simp only [smL, List.length_cons, qL_len]
    rw [Nat.mul_add]; omega
theorem qsL_len (F : FitX A 0) : ∀ p, (qsL A p).length ≤ 4097 * p
  | 0 => by simp [qsL]
  | p + 1 => by
    have h1 := qsL_len F p
    have h2 := F.ql (p + 1)
    have h3 := F.few.1
    simp only [qsL, List.length_append, qL_len]; omega
theorem FitX.sml (F : FitX A 0) : ∀ s ∈ A.sems, s.2.length ≤ 4096 := fun s hs => by
  obtain ⟨i, hi, rfl⟩ := List.mem_iff_getElem.1 hs
  have h := F.wl (i := i + 1) (by omega) (by omega)
  have h3 := F.few.1
  unfold St.sm at h
  rw [Nat.add_sub_cancel, List.getD_eq_getElem?_getD, List.getElem?_eq_getElem hi] at h
  simp only [Option.getD_some] at h
  omega
/-- The beginning: three numbers. -/
theorem state_head (C : Tr en w0 T0 w T) (I : SInv T sb S L A) {f : Addr → Go.Sh.M α}
    (hq : ∀ c w' T', Tr en w0 T0 w' T' → Ou T' c [A.now, (A.active : Int), (A.procs.length : Int)] → T c = none → Ko T T' → Ok (f ⟨c, 0, none⟩) w' Q) :
    Ok (bnd (
  bnd (ordM 9 1 (regionIn 1 Tryz.f9)) fun (o2 : List Nat) =>
  bnd (drf (some ⟨sb, 0, none⟩)) fun (p3 : Addr) =>
  bnd (ld (.int .i64) (Addr.add p3 0)) fun (v4 : Int) =>
  bnd (drf (some ⟨sb, 0, none⟩)) fun (p5 : Addr) =>
  bnd (ld (.int .i64) (Addr.add p5 1)) fun (v6 : Int) =>
  bnd (drf (some ⟨sb, 0, none⟩)) fun (p7 : Addr) =>
  bnd (ld .sl (Addr.add p7 2)) fun (v8 : Sl) =>
  cnd (bef o2 13 14) (
  bnd (runV Tryz.prog .sl (Instr.buildSlice 28 3 #[(0, .int .i64 v4), (1, .int .i64 v6), (2, .int .i64 (v8.len : Int))])) fun (v9 : Sl) =>
  bnd (
  bnd (chk .sl (Addr.add p7 2) v8) fun _ =>
  ret ()) fun _ =>
  bnd (newC 28 [.slice none 0 0]) fun (p10 : Addr) =>
  bnd (
  bnd (chk .sl (Addr.add p7 2) v8) fun _ =>
  ret ()) fun _ =>
  bnd (wrs p10 0 [.slice v9.a v9.len v9.cap]) fun _ =>
  bnd (ret ()) fun _ =>
  ret p10) (
  bnd (newC 28 [.slice none 0 0]) fun (p11 : Addr) =>
  bnd (
  bnd (chk .sl (Addr.add p7 2) v8) fun _ =>
  bnd (chk (.int .i64) (Addr.add p5 1) v6) fun _ =>
  bnd (chk (.int .i64) (Addr.add p3 0) v4) fun _ =>
  ret ()) fun _ =>
  bnd (runV Tryz.prog .sl (Instr.buildSlice 28 3 #[(0, .int .i64 v4), (1, .int .i64 v6), (2, .int .i64 (v8.len : Int))])) fun (v12 : Sl) =>
  bnd (
  bnd (chk .sl (Addr.add p7 2) v8) fun _ =>
  ret ()) fun _ =>
  bnd (wrs p11 0 [.slice v12.a v12.len v12.cap]) fun _ =>
  bnd (ret ()) fun _ =>
  ret p11)) f) w Q := by
  simp only [bnd_as, bnd_ret]
  refine ok_tord C fun o w1 C => ?_
  refine ok_drfS (ok_tld C I.sch (x := S.now) rfl ?_)
  refine ok_drfS (ok_tld C I.sch (x := S.active) rfl ?_)
  refine ok_drfS (ok_tld C I.sch (x := S.procs) (rdv_sl (by rfl)) ?_)
  cases hb : bef o 13 14 with
  | true =>
    refine ok_tB rfl ?_
    simp only [bnd_as, bnd_ret]
    refine ok_threeI C (.out 0) fun b w2 hb C2 R2 => ?_
    refine ok_tchk (m := 0) (k := 2) (t := .sl) (x := S.procs) C2 (put_new I.sch hb) (rdv_sl (by rfl)) ?_
    refine ok_tnew C2 (.box [slV ⟨none, 0, 0⟩]) rfl fun c w3 hc C3 => ?_
    refine ok_tchk (m := 0) (k := 2) (t := .sl) (x := S.procs) C3 (put_new (put_new I.sch hb) hc) (rdv_sl (by rfl)) ?_
    rw [I.now, I.active, I.procs.len] at C3 R2 hc
    have hc0 : T c = none := by
      cases h : T c with
      | none => rfl
      | some p => rw [put_new h hb] at hc; cases hc
    refine ok_outW C3 (put_eq _ _ _) (R2.mono fun b' M _ h => put_new h hc) fun w4 T4 C4 O4 K4 => ?_
    exact hq c w4 T4 C4 O4 hc0 ((show Ko T _ from fun b' p hb' _ => put_new (put_new hb' hb) hc).kc hc0 K4)
  | false =>
    refine ok_fB rfl ?_
    simp only [bnd_as, bnd_ret]
    refine ok_tnew C (.box [slV ⟨none, 0, 0⟩]) rfl fun c w3 hc C3 => ?_
    refine ok_tchk (m := 0) (k := 2) (t := .sl) (x := S.procs) C3 (put_new I.sch hc) (rdv_sl (by rfl)) ?_
    refine ok_tchk (m := 0) (k := 1) (t := .int .i64) (x := S.active) C3 (put_new I.sch hc) (by rfl) ?_
    refine ok_tchk (m := 0) (k := 0) (t := .int .i64) (x := S.now) C3 (put_new I.sch hc) (by rfl) ?_
    refine ok_threeI C3 (.out 0) fun b w2 hb C2 R2 => ?_
    refine ok_tchk (m := 0) (k := 2) (t := .sl) (x := S.procs) C2 (put_new (put_new I.sch hc) hb) (rdv_sl (by rfl)) ?_
    rw [I.now, I.active, I.procs.len] at C2 R2
    refine ok_outW C2 (put_new (put_eq _ _ _) hb) R2 fun w4 T4 C4 O4 K4 => ?_
    exact hq c w4 T4 C4 O4 hc ((show Ko T _ from fun b' p hb' _ => put_new (put_new hb' hc) hb).kc hc K4)
end
end Go.Proofs.YtkkdeljladihpaaGreat

/-
  The state as numbers: State gives them.
-/
namespace Go.Proofs.YtkkdeljladihpaaGreat
open Go.Sh Go.RowKit X
set_option maxRecDepth 100000
section
variable {w0 w : World} {T0 T : Hp} {sb c : Nat} {S : Sk} {L : List Sm} {A : St} {α β : Type} {Q : α → World → Prop} {acc : List Int}
theorem sems_get (I : SInv T sb S L A) {i : Nat} (h : i < A.sems.length) : ∃ r, L[i]? = some r ∧ r.excess = A.sems[i].1 ∧ Rw T (Ob.ints (.sem i)) r.queue (ns A.sems[i].2) := by
  have hl := I.slen
  have h1 : L[i]? = some L[i] := row_get (by omega)
  exact ⟨_, h1, I.sem i _ _ (row_get h) h1⟩
def StateQ (w : World) (T : Hp) (A : St) (r : Sl) (w' : World) : Prop := ∃ T', Tr en w T w' T' ∧ ∃ v, v.Perm A.timers ∧ v.Pairwise (fun x y => St.lt y x = false) ∧ Rw T' (Ob.ints (.out 0)) r (stateL A v) ∧ Ko T T'
theorem state_spec (h : Th en w T) (I : SInv T sb S L A) (F : FitX A 0) : Sr (f9_State (some ⟨sb, 0, none⟩)) w T fun r _ T' => ∃ v, v.Perm A.timers ∧ v.Pairwise (fun x y => St.lt y x = false) ∧ Rw T' (Ob.ints (.out 0)) r (stateL A v) ∧ Ko T T' := by
  show Ok _ w (StateQ w T A)
  unfold f9_State
  have hf := F.few
  have hpl := I.procs.len
  have hsl := I.sems.len
  have hLl := I.slen
  have hev := F.evs.1
  refine state_head (Tr.refl h) I fun c w1 T1 C1 O1 hc0 K1 => ?_
  refine ok_drfS (ok_tld C1 (I.ko K1).sch (x := S.procs) (rdv_sl (by rfl)) ?_)
  refine ok_loopN (fun m (i' : Int) w' => ∃ (i : Nat) (T' : Hp), i' = i ∧ i ≤ A.procs.length ∧ m = A.procs.length - i ∧ Tr en w T w' T' ∧ Ko T T' ∧ Ou T' c ([A.now, (A.active : Int), (A.procs.length : Int)] ++ (A.procs.take i).flatMap prL)) ?_ A.procs.length 0 w1 ⟨0, T1, rfl, Nat.zero_le _, rfl, C1, K1, by simpa using O1⟩
  clear O1 K1 C1
  rintro m i' w2 ⟨i, T2, rfl, hi, rfl, C2, K2, O2⟩
  have I2 := I.ko K2
  by_cases hlt : i < A.procs.length
  · refine ok_true (by rw [hpl]; simpa using hlt) ?_
    refine ok_rowld C2 (g := Pr.en) (n := 3) (mk := Ob.procs) (fun _ => rfl) (fun _ => rfl) I2.procs (row_get hlt) (v := (A.procs[i].prio, A.procs[i].standing, A.procs[i].sem)) (by decide) (by rfl) rfl ?_
    refine ok_tbox C2 rfl rfl fun b w3 hb C3 => ?_
    obtain ⟨s, hc, hr⟩ := O2
    refine ok_tld0 C3 (put_new hc hb) (x := s) (rdv_sl (by rfl)) ?_
    refine ok_tld C3 (put_eq _ _ _) (x := A.procs[i].prio) (by rfl) ?_
    refine ok_tld C3 (put_eq _ _ _) (t := .int .u8) (x := A.procs[i].standing) (by rfl) ?_
    have hpr := F.prio _ (List.getElem_mem hlt)
    rw [wI (n := A.procs[i].standing) (by omega)]
    have hpll := prL_len (A.procs.take i)
    rw [List.length_take, Nat.min_eq_left hi] at hpll
    refine ok_out2 C3 (put_new hc hb) (hr.mono fun b' M _ h => put_new h hb) (by rw [List.length_append, hpll]; simp; omega) fun w4 T4 C4 O4 K4 => ?_
    refine ok_ret.2 ⟨A.procs.length - (i + 1), by omega, i + 1, T4, by rw [wI (by omega)]; simp, by omega, rfl, C4, (K2.ext fun b' p h => put_new h hb).kc hc0 K4, ?_⟩
    rw [flat_take _ hlt, ← List.append_assoc]; exact O4
  refine ok_false (by rw [hpl]; simpa using hlt) ?_
  have : i = A.procs.length := by omega
  subst this
  rw [List.take_length] at O2
  clear hlt hi
  refine ok_bnd.2 (ok_mono (Q := StateQ w T A) ?_ fun r w' h => ok_ret.2 h)
  simp only [bnd_as, bnd_ret]
  refine ok_tord C2 fun o w3 C3 => ?_
  obtain ⟨s, hc, hr⟩ := O2
  refine ok_tld0 C3 hc (x := s) (rdv_sl (by rfl)) ?_
  refine ok_drfS (ok_tld C3 I2.sch (x := S.sems) (rdv_sl (by rfl)) ?_)
  refine ok_oneI C3 (.out 9) fun b w4 hb C4 R4 => ?_
  refine ok_tchk (m := 0) (k := 3) (t := .sl) (x := S.sems) C4 (put_new I2.sch hb) (rdv_sl (by rfl)) ?_
  refine ok_bnd.2 (ok_chk (C4.th c _ (put_new hc hb)).1 (x := s) (rdv_sl (by rfl)) ?_)
  have hpll := prL_len A.procs
  refine ok_outA C4 (put_new hc hb) (hr.mono fun b' M _ h => put_new h hb) (srcI C4.th R4) (by rw [List.length_append, hpll]; simp; omega) fun r5 w5 T5 C5 R5 hc5 K5 => ?_
  have Ko5 : Ko T T5 := (K2.ext fun b' p h => put_new h hb).kc hc0 K5
  refine ok_tchk (m := 0) (k := 3) (t := .sl) (x := S.sems) C5 (I.ko Ko5).sch (rdv_sl (by rfl)) ?_
  refine ok_outW C5 hc5 R5 fun w6 T6 C6 O6 K6 => ?_
  have Ko6 := Ko5.kc hc0 K6
  rw [hsl, hLl] at O6
  clear Ko5 C5 K5 C4 R4 R5 hc5 hb b C3 hr hc s C2 K2 I2
  refine ok_drfS (ok_tld C6 (I.ko Ko6).sch (x := S.sems) (rdv_sl (by rfl)) ?_)
  generalize hP : [A.now, (A.active : Int), (A.procs.length : Int)] ++ A.procs.flatMap prL ++ [(A.sems.length : Int)] = P at O6
  have hPl : P.length ≤ 8196 := by rw [← hP]; simp only [List.length_append, hpll]; simp; omega
  refine ok_loopN (fun m (i' : Int) w' => ∃ (i : Nat) (T' : Hp), i' = i ∧ i ≤ A.sems.length ∧ m = A.sems.length - i ∧ Tr en w T w' T' ∧ Ko T T' ∧ Ou T' c (P ++ (A.sems.take i).flatMap smL)) ?_ A.sems.length 0 w6 ⟨0, T6, rfl, Nat.zero_le _, rfl, C6, Ko6, by simpa using O6⟩
  clear O6 Ko6 C6
  rintro m i' w2 ⟨i, T2, rfl, hi, rfl, C2, K2, O2⟩
  have I2 := I.ko K2
  by_cases hlt : i < A.sems.length
  · refine ok_true (by rw [hsl, hLl]; simpa using hlt) ?_
    obtain ⟨r, hr1, hr2, hr3⟩ := sems_get I2 hlt
    refine ok_rowld C2 (g := Sm.en) (n := 2) (mk := Ob.sems) (fun _ => rfl) (fun _ => rfl) I2.sems hr1 (v := (r.excess, r.queue)) (by decide) (by rfl) rfl ?_
    refine ok_tbox C2 rfl rfl fun b w3 hb C3 => ?_
    obtain ⟨s, hc, hr⟩ := O2
    refine ok_tld0 C3 (put_new hc hb) (x := s) (rdv_sl (by rfl)) ?_
    refine ok_tld C3 (put_eq _ _ _) (x := r.excess) (by rfl) ?_
    have hsml : ∀ s ∈ A.sems, s.2.length ≤ 4096 := F.sml
    have hq := hsml _ (List.getElem_mem hlt)
    have hll := smL_len (n := 4096) (A.sems.take i) fun s hs => hsml s (List.mem_of_mem_take hs)
    rw [List.length_take, Nat.min_eq_left hi] at hll
    refine ok_out1 C3 (put_new hc hb) (hr.mono fun b' M _ h => put_new h hb) (by rw [List.length_append]; omega) fun w4 T4 C4 O4 K4 => ?_
    refine ok_tld C4 (m := 0) (k := 1) (K4 b _ (put_eq _ _ _) (by rintro rfl; rw [hc] at hb; cases hb) (by simp)) (x := r.queue) (rdv_sl (by rfl)) ?_
    have hr4 : Rw T4 (Ob.ints (.sem i)) r.queue (ns A.sems[i].2) := K4.rw (put_new hc hb) (hr3.mono fun b' M _ h => put_new h hb) (by simp) (by simp)
    refine queue_out C4 O4 (by simp) hr4 (by simp only [List.length_append, List.length_cons, List.length_nil]; omega) fun w5 T5 C5 O5 K5 => ?_
    refine ok_ret.2 ⟨A.sems.length - (i + 1), by omega, i + 1, T5, by rw [wI (by omega)]; simp, by omega, rfl, C5, ((K2.ext fun b' p h => put_new h hb).kc hc0 K4).kc hc0 K5, ?_⟩
    rw [flat_take _ hlt, ← List.append_assoc]
    rw [hr2] at O5
    have e : P ++ (A.sems.take i).flatMap smL ++ smL A.sems[i] = P ++ (A.sems.take i).flatMap smL ++ [A.sems[i].1] ++ qL A.sems[i].2 := by simp [smL]
    rw [e]; exact O5
  refine ok_false (by rw [hsl, hLl]; simpa using hlt) ?_
  have : i = A.sems.length := by omega
  subst this
  rw [List.take_length] at O2
  clear hlt hi
  refine ok_bnd.2 (ok_mono (Q := StateQ w T A) ?_ fun r w' h => ok_ret.2 h)
  have hP2 : (P ++ A.sems.flatMap smL).length ≤ 16800000 := by
    have := smL_len (n := 4096) A.sems F.sml
    have h2 : (4096 + 2) * A.sems.length ≤ 4098 * 4096 := Nat.mul_le_mul_left _ hf.2.1
    rw [List.length_append]; omega
  refine ok_loopN (fun m (i' : Int) w' => ∃ (p : Nat) (T' : Hp), i' = ((p + 1 : Nat) : Int) ∧ p ≤ 16 ∧ m = 16 - p ∧ Tr en w T w' T' ∧ Ko T T' ∧ Ou T' c (P ++ A.sems.flatMap smL ++ qsL A p)) ?_ 16 1 w2 ⟨0, T2, rfl, Nat.zero_le _, rfl, C2, K2, by simpa [qsL] using O2⟩
  clear O2 K2 C2 I2 T2 w2
  rintro m i' w2 ⟨p, T2, rfl, hp, rfl, C2, K2, O2⟩
  have I2 := I.ko K2
  have hqsl := qsL_len F p
  by_cases hlt : p < 16
  · refine ok_true (by simp; omega) ?_
    obtain ⟨q, hq1, hq2⟩ := I2.q (p := p + 1) (by omega)
    refine ok_drfS ?_
    rw [addr_add]
    refine ok_qix rfl (by omega) ?_
    rw [Nat.zero_add]
    refine ok_tld0 C2 I2.sch (x := q) (rd_queue hq1) ?_
    have hql := F.ql (p + 1)
    refine queue_out C2 O2 (by simp) hq2 (by rw [List.length_append]; omega) fun w5 T5 C5 O5 K5 => ?_
    refine ok_ret.2 ⟨16 - (p + 1), by omega, p + 1, T5, by rw [wI (by omega)]; simp, by omega, rfl, C5, K2.kc hc0 K5, ?_⟩
    rw [List.append_assoc] at O5
    exact O5
  refine ok_false (by simp; omega) ?_
  have : p = 16 := by omega
  subst this
  clear hlt hp
  have hH : P ++ A.sems.flatMap smL ++ qsL A 16 = headL A := by rw [← hP]; rfl
  have hHl : (headL A).length ≤ 17000000 := by rw [← hH, List.length_append]; omega
  rw [hH] at O2
  clear hH hP2 hqsl hPl hP hpll
  refine ok_drfS (ok_tld C2 I2.sch (x := S.timers) (rd_timers I2.qlen) ?_)
  refine sorted_spec C2 I2.timers hf.2.2 fun r w3 T3 v C3 R3 hv1 hv2 hT3 => ?_
  have K3 : Ko T T3 := K2.ext hT3
  have hvl : v.length = A.timers.length := hv1.length_eq
  have hrl : r.len = v.length := R3.len
  obtain ⟨s, hc, hr⟩ := O2.ext hT3
  refine ok_tld0 C3 hc (x := s) (rdv_sl (by rfl)) ?_
  refine ok_out1 C3 hc hr (by omega) fun w4 T4 C4 O4 K4 => ?_
  have R4 : Rw T4 Ob.tms r v := K4.rw hc R3 (by simp) (by simp)
  rw [hrl] at O4
  refine ok_bnd.2 (ok_mono (Q := StateQ w T A) ?_ fun r w' h => ok_ret.2 h)
  refine ok_loopN (fun m (i' : Int) w' => ∃ (i : Nat) (T' : Hp), i' = i ∧ i ≤ v.length ∧ m = v.length - i ∧ Tr en w T w' T' ∧ Ko T T' ∧ Rw T' Ob.tms r v ∧ Ou T' c (headL A ++ [(v.length : Int)] ++ (v.take i).flatMap tmL)) ?_ v.length 0 w4 ⟨0, T4, rfl, Nat.zero_le _, rfl, C4, K3.kc hc0 K4, R4, by simpa using O4⟩
  clear O4 K4 C4 R4 hr hc s hT3 R3 C3 K3 C2 O2 K2 I2 T2 w2 T3 w3 T4 w4
  rintro m i' w2 ⟨i, T2, rfl, hi, rfl, C2, K2, R2, O2⟩
  have htl := tmL_len (v.take i)
  rw [List.length_take, Nat.min_eq_left hi] at htl
  by_cases hlt : i < v.length
  · refine ok_true (by rw [hrl]; simpa using hlt) ?_
    refine ok_rowld C2 (g := Tm.en) (n := 3) (mk := Ob.tms) (fun _ => rfl) (fun _ => rfl) R2 (row_get hlt) (v := (v[i].time, v[i].made, v[i].sem)) (by decide) (by rfl) rfl ?_
    refine ok_tbox C2 rfl rfl fun b w3 hb C3 => ?_
    obtain ⟨s, hc, hr⟩ := O2
    refine ok_tld0 C3 (put_new hc hb) (x := s) (rdv_sl (by rfl)) ?_
    refine ok_tld C3 (put_eq _ _ _) (x := v[i].time) (by rfl) ?_
    refine ok_tld C3 (put_eq _ _ _) (x := v[i].sem) (by rfl) ?_
    refine ok_out2 C3 (put_new hc hb) (hr.mono fun b' M _ h => put_new h hb) (by simp only [List.length_append, htl, List.length_cons, List.length_nil]; omega) fun w4 T4 C4 O4 K4 => ?_
    refine ok_ret.2 ⟨v.length - (i + 1), by omega, i + 1, T4, by rw [wI (by omega)]; simp, by omega, rfl, C4, (K2.ext fun b' p h => put_new h hb).kc hc0 K4, K4.rw (put_new hc hb) (R2.mono fun b' M _ h => put_new h hb) (by simp) (by simp), ?_⟩
    rw [flat_take _ hlt, ← List.append_assoc]; exact O4
  refine ok_false (by rw [hrl]; simpa using hlt) ?_
  have : i = v.length := by omega
  subst this
  rw [List.take_length] at O2
  clear hlt hi
  have I2 := I.ko K2
  refine ok_drfS (ok_tld C2 I2.sch (x := tupN 63 S.events) (t := .agg (aggN 63)) (rd_events (by rw [I.events]; exact hev) I2.qlen) ?_)
  refine ok_bnd.2 (ok_mono (Q := StateQ w T A) ?_ fun r w' h => ok_ret.2 h)
  refine ok_loopN (fun m (st : Sl × Int) w' => ∃ (i : Nat) (T' : Hp), st.2 = i ∧ i ≤ 64 ∧ m = 64 - i ∧ Tr en w T w' T' ∧ Ko T T' ∧ Ou T' c (headL A ++ [(v.length : Int)] ++ v.flatMap tmL) ∧ Rw T' (Ob.ints (.out 1)) st.1 (evK 0 (A.events.take i))) ?_ 64 (⟨none, 0, 0⟩, 0) w2 ⟨0, T2, rfl, Nat.zero_le _, rfl, C2, K2, O2, rw_nil _ _⟩
  clear O2 K2 C2 R2 I2 T2 w2 htl
  have htl := tmL_len v
  rintro m ⟨s1, k'⟩ w2 ⟨i, T2, hk, hi, rfl, C2, K2, O2, R2⟩
  simp only at hk R2
  subst hk
  dsimp only
  have hel := (evK_len (A.events.take i) 0).1
  rw [List.length_take, hev, Nat.min_eq_left hi] at hel
  by_cases hlt : i < 64
  · refine ok_true (by simp; omega) ?_
    have hg : A.events[i]? = some A.events[i] := row_get (by omega)
    refine ok_ixEv (l := S.events) (by rw [I.events]; exact hg) hlt (flat_tupN 63 S.events (by rw [I.events]; exact hev)) rfl ?_
    have htk : A.events.take (i + 1) = A.events.take i ++ [A.events[i]] := List.take_succ_eq_append_getElem (by omega)
    have hke := evK_snoc (A.events.take i) 0 A.events[i]
    rw [← htk, List.length_take, Nat.min_eq_left (by omega), Nat.zero_add] at hke
    by_cases h0 : A.events[i] > 0
    · refine ok_bnd.2 (ok_true (by simpa using h0) ?_)
      rw [if_pos h0] at hke
      refine ok_twoI C2 (.out 9) fun b w3 hb C3 R3 => ?_
      refine ok_appI C3 (R2.mono fun b' M _ h => put_new h hb) (srcI C3.th R3) (by simp; omega) fun r4 w4 T4 C4 R4 hT4 => ?_
      refine ok_ret.2 (ok_ret.2 ⟨64 - (i + 1), by omega, i + 1, T4, by show IntKind.wrap .i64 _ = _; rw [wI (by omega)]; simp, by omega, rfl, C4, (K2.ext fun b' p h => put_new h hb).ext' hT4, ?_, ?_⟩)
      · obtain ⟨s, hc, hr⟩ := O2
        exact ⟨s, hT4 _ _ (put_new hc hb) (by simp), hr.mono fun b' M _ h => hT4 _ _ (put_new h hb) (by simp)⟩
      · rw [hke]; exact R4
    · refine ok_bnd.2 (ok_false (by simpa using h0) (ok_ret.2 ?_))
      rw [if_neg h0, List.append_nil] at hke
      exact ok_ret.2 ⟨64 - (i + 1), by omega, i + 1, T2, by show IntKind.wrap .i64 _ = _; rw [wI (by omega)]; simp, by omega, rfl, C2, K2, O2, by rw [hke]; exact R2⟩
  refine ok_false (by simp; omega) ?_
  have : i = 64 := by omega
  subst this
  rw [List.take_of_length_le (by omega)] at R2
  obtain ⟨s, hc, hr⟩ := O2
  refine ok_tld0 C2 hc (x := s) (rdv_sl (by rfl)) ?_
  have hs1 : s1.len = (evK 0 A.events).length := R2.len
  have hel2 := (evK_len A.events 0).1
  have ed : IntKind.wrap .i64 (Int.tdiv (s1.len : Int) 2) = (((evK 0 A.events).length / 2 : Nat) : Int) := by
    rw [hs1, wI (by rw [Int.tdiv_eq_ediv_of_nonneg (by omega)]; omega), Int.tdiv_eq_ediv_of_nonneg (by omega)]
    omega
  rw [ed]
  refine ok_out1 C2 hc hr (by simp only [List.length_append, htl, List.length_cons, List.length_nil]; omega) fun w3 T3 C3 O3 K3 => ?_
  have R3 : Rw T3 (Ob.ints (.out 1)) s1 (evK 0 A.events) := K3.rw hc R2 (by simp) (by simp)
  obtain ⟨s3, hc3, hr3⟩ := O3
  refine ok_tld0 C3 hc3 (x := s3) (rdv_sl (by rfl)) ?_
  refine ok_outA C3 hc3 hr3 (srcI C3.th R3) (by simp only [List.length_append, htl, List.length_cons, List.length_nil]; omega) fun r4 w4 T4 C4 R4 hc4 K4 => ?_
  exact ok_ret.2 ⟨T4, C4, v, hv1, hv2, R4, (K2.kc hc0 K3).kc hc0 K4⟩
end
end Go.Proofs.YtkkdeljladihpaaGreat
