/-
  Parts of the proof: RF, RG. It states what the functions do; no further condition.
-/
import Derived.Test.YtckfidopkajpaaaRE
set_option linter.unusedVariables false
set_option linter.unusedSimpArgs false
/-
  The reference: behind, SetSender, Unwind.
-/
namespace Go.Proofs.Ytckfidopkajpaaa
set_option linter.unusedVariables false
open Go.Sh Go.RowKit
set_option maxRecDepth 100000
section
variable {w0 w : World} {T0 T : Rp} {sb : Nat} {S : Rk} {L L' : List Ra} {A : St} {k b : Nat} {r : Ra} {α β : Type} {Q : α → World → Prop}
theorem behind_iff {A : St} {i k : Nat} : A.behind i k = true ↔ ∃ l, St.Row A i l k := by
  unfold St.behind
  exact @decide_eq_true_iff _ (Classical.propDecidable _)
theorem behind_self {A : St} {k : Nat} : A.behind k k = true := behind_iff.2 ⟨_, .one k⟩
theorem behind_none {A : St} {j k : Nat} (he : A.eff j = none) (hn : j ≠ k) : A.behind j k = false := by
  rw [← Bool.not_eq_true, behind_iff]
  rintro ⟨l, hl⟩
  cases hl with
  | one => exact hn rfl
  | next h1 h2 => rw [he] at h1; cases h1
theorem behind_next {A : St} {j i k : Nat} (he : A.eff j = some i) (hn : j ≠ k) : A.behind j k = A.behind i k := by
  rw [Bool.eq_iff_iff, behind_iff, behind_iff]
  constructor
  · rintro ⟨l, hl⟩
    cases hl with
    | one => exact absurd rfl hn
    | next h1 h2 =>
      rw [he, Option.some.injEq] at h1
      subst h1
      exact ⟨_, h2⟩
  · rintro ⟨l, hl⟩
    exact ⟨_, .next he hl⟩
theorem rbehind_spec (h : Th ren w T) (hf : A.Fit) (I : RInv T sb S L A) {j : Nat} (hj : A.alive j = true) {n m : Int} (hn : n = j) (hm : m = k) : Sr (f79_palaverref23_Stack_behind (pt (some sb)) n m) w T fun r _ T' => T' = T ∧ r = A.behind j k := by
  unfold f79_palaverref23_Stack_behind
  subst hn; subst hm
  have key : ∀ i, A.alive i = true → ∀ w1, Tr ren w T w1 T → Ok (loopM (fun (s1 : Int) =>
    cnd (decide (s1 ≥ (0 : Int))) (cnd (s1 == (k : Int)) (ret (Sum.inr true)) (bnd (f73_palaverref23_Stack_sender (pt (some sb)) s1) fun (r2 : Int) => ret (Sum.inl r2))) (ret (Sum.inr false))) (i : Int)) w1 fun r w' => ∃ T', Tr ren w T w' T' ∧ T' = T ∧ r = A.behind i k := by
    intro i
    induction hf.acy i with
    | intro i _ ih =>
      intro hal w1 C
      obtain ⟨a, hk, _⟩ := alive_lt hal
      rw [loopM_eq, ok_bnd]
      refine ok_true (by simp) ?_
      by_cases e : i = k
      · subst e
        exact ok_true (by simp) (ok_ret.2 (ok_ret.2 ⟨T, C, rfl, behind_self.symm⟩))
      refine ok_false (by simp only [beq_eq_false_iff_ne, ne_eq]; omega) ?_
      refine ok_rcall C (rsender_spec C.th hf.snd I hk rfl) ?_
      rintro _ w2 T2 C ⟨rfl, rfl⟩
      refine ok_ret.2 ?_
      simp only
      cases he : A.eff i with
      | none =>
        rw [loopM_eq, ok_bnd]
        exact ok_false rfl (ok_ret.2 (ok_ret.2 ⟨_, C, rfl, (behind_none he e).symm⟩))
      | some i2 =>
        rw [behind_next he e]
        exact ih i2 he (eff_alive he) w2 C
  exact key j hj w (Tr.refl h)
theorem rsetSender_spec (h : Th ren w T) (hf : A.Fit) (hnm : A.named.length ≤ 4000000000000) (I : RInv T sb S L A) (x d : Int) : Sr (f54_palaverref23_Stack_SetSender (pt (some sb)) x d) w T fun r _ T' => r = (A.setSender x d).1 ∧ Rs T' sb (A.setSender x d).2 := by
  unfold f54_palaverref23_Stack_SetSender St.setSender
  have C := Tr.refl h
  refine ok_rcall C (rof_spec C.th hnm I x) ?_
  rintro r w1 T1 C ⟨rfl, ⟨k, a, h1, hk, hal, rfl⟩ | ⟨e, h1, h2, rfl⟩⟩
  rotate_left
  · rw [h1]
    exact ok_true (by simpa using h2) (ok_ret.2 ⟨_, C, rfl, S, L, I⟩)
  rw [h1]
  simp only
  rw [hk]
  simp only
  refine ok_false rfl ?_
  obtain ⟨r, b, L', hr, at_, ra, h4, h3⟩ := I.at hk
  by_cases hd : d = 0
  · rw [if_pos hd]
    refine ok_true (by simpa using hd) ?_
    refine ok_drfP ?_
    refine ok_tld C I.stk (x := S.all) rfl ?_
    refine ok_rix at_ rfl ?_
    refine ok_rwr C at_ { r with sender := -1 } (by decide) rfl rfl fun w2 C => ?_
    refine ok_ret.2 ⟨_, C, rfl, S, L.set k { r with sender := -1 }, ?_⟩
    exact I.rowPut (r' := { r with sender := -1 }) (a' := { a with sender := none }) hk at_ h4 h3 (fun _ _ h _ => h) { ra with sender := rfl } rfl (I.small k a hk)
  rw [if_neg hd]
  refine ok_false (by simpa using hd) ?_
  refine ok_rcall C (rof_spec C.th hnm I d) ?_
  rintro r5 w2 T2 C ⟨rfl, ⟨j, a2, g1, gk, gal, rfl⟩ | ⟨e, g1, g2, rfl⟩⟩
  rotate_left
  · rw [g1]
    exact ok_true (by simpa using g2) (ok_ret.2 ⟨_, C, rfl, S, L, I⟩)
  rw [g1]
  refine ok_false rfl ?_
  refine ok_rcall C (rbehind_spec (k := k) C.th hf I (alive_act gk gal) rfl rfl) ?_
  rintro _ w3 T3 C ⟨rfl, rfl⟩
  simp only
  by_cases hb : A.behind j k = true
  · rw [if_pos hb]
    exact ok_true hb (ok_ret.2 ⟨_, C, rfl, S, L, I⟩)
  rw [if_neg hb]
  refine ok_false (by simpa using hb) ?_
  refine ok_drfP ?_
  refine ok_tld C I.stk (x := S.all) rfl ?_
  refine ok_rix at_ rfl ?_
  refine ok_rwr C at_ { r with sender := (j : Int) } (show 4 + 1 ≤ 7 by decide) rfl rfl fun w2 C => ?_
  refine ok_ret.2 ⟨_, C, rfl, S, L.set k { r with sender := (j : Int) }, ?_⟩
  exact I.rowPut (r' := { r with sender := (j : Int) }) (a' := { a with sender := some j }) hk at_ h4 h3 (fun _ _ h _ => h) { ra with sender := rfl } rfl (I.small k a hk)
theorem foldl_eff : ∀ (l : List Nat) (A : St) (j : Nat), (∀ i, A.eff j = some i → i ∉ l) → (l.foldl St.die A).eff j = A.eff j := by
  intro l
  induction l with
  | nil => intro A j _; rfl
  | cons x l ih =>
    intro A j h
    have hd : (A.die x).eff j = A.eff j := by
      rw [die_eff]
      unfold drp
      split
      · rename_i he
        exact absurd (List.mem_cons_self ..) (h x he)
      · rfl
    rw [List.foldl_cons, ih _ _ (fun i hi => by rw [hd] at hi; exact fun hm => h i hi (List.mem_cons_of_mem _ hm)), hd]
theorem runwind_spec (h : Th ren w T) (hf : A.Fit) (hnm : A.named.length ≤ 4000000000000) (I : RInv T sb S L A) (x v : Int) : Sr (f57_palaverref23_Stack_Unwind (pt (some sb)) x v) w T fun r _ T' => r = (A.unwind x v).1 ∧ Rs T' sb (A.unwind x v).2 := by
  unfold f57_palaverref23_Stack_Unwind St.unwind
  have C := Tr.refl h
  have hac := I.active
  refine ok_drfP ?_
  refine ok_tld C I.stk (x := S.active) rfl ?_
  cases h1 : A.active with
  | none =>
    rw [h1] at hac
    exact ok_true (by rw [hac]; rfl) (ok_ret.2 ⟨T, C, rfl, S, L, I⟩)
  | some i0 =>
  rw [h1] at hac
  have hac : S.active = (i0 : Int) := hac
  have hal0 := hf.act i0 h1
  simp only
  refine ok_false (by rw [hac]; simp) ?_
  refine ok_rcall C (rof_spec C.th hnm I x) ?_
  rintro r w1 T1 C ⟨rfl, ⟨k, a, g1, hk, hal, rfl⟩ | ⟨e, g1, g2, rfl⟩⟩
  rotate_left
  · rw [g1]
    exact ok_true (by simpa using g2) (ok_ret.2 ⟨_, C, rfl, S, L, I⟩)
  rw [g1]
  simp only
  refine ok_false rfl ?_
  refine ok_drfP ?_
  refine ok_tld C I.stk (x := S.active) rfl ?_
  refine ok_rcall C (rbehind_spec (k := k) C.th hf I hal0 hac rfl) ?_
  rintro _ w2 T2 C ⟨rfl, rfl⟩
  by_cases hb : ∃ l, St.Row A i0 l k
  rotate_left
  · rw [dif_neg hb]
    have hbf : A.behind i0 k = false := by rw [← Bool.not_eq_true, behind_iff]; exact hb
    rw [hbf]
    exact ok_true rfl (ok_ret.2 ⟨_, C, rfl, S, L, I⟩)
  rw [dif_pos hb, behind_iff.2 hb]
  have hrow := hb.choose_spec
  generalize hb.choose = P at hrow
  refine ok_false rfl ?_
  refine ok_drfP ?_
  refine ok_tld C I.stk (x := S.active) rfl ?_
  rw [hac]
  have key : ∀ i p, A.Pre i0 p (some i) → k ∉ p → ∀ w1 T1, Tr ren w T2 w1 T1 → Rs T1 sb (p.foldl St.die A) → Ok (loopM (fun (s9 : Int) =>
    cnd (s9 != (k : Int)) (
    bnd (f73_palaverref23_Stack_sender (pt (some sb)) s9) fun (r10 : Int) =>
    bnd (f74_palaverref23_Stack_ends (pt (some sb)) s9) fun (r11 : Unit) =>
    ret (Sum.inl r10)) (
    bnd (
    bnd (f73_palaverref23_Stack_sender (pt (some sb)) (k : Int)) fun (r12 : Int) =>
    bnd (f74_palaverref23_Stack_ends (pt (some sb)) (k : Int)) fun (r13 : Unit) =>
    bnd (f75_palaverref23_Stack_back (pt (some sb)) r12 v) fun (r14 : Int) =>
    ret r14) fun r15 =>
    ret (Sum.inr r15))) (i : Int)) w1 fun r w' => ∃ T', Tr ren w T2 w' T' ∧ r = ((P.foldl St.die A).back (A.eff k) v).1 ∧ Rs T' sb ((P.foldl St.die A).back (A.eff k) v).2 := by
    intro i
    induction hf.acy i with
    | intro i _ ih =>
      intro p hp hkp w3 T3 C ⟨S3, L3, I3⟩
      have hrw := hp.row i rfl
      have hnd := (row_nodup hf.acy hrw).1
      have hip : i ∉ p := by
        intro hm
        have := List.nodup_append.1 hnd
        exact this.2.2 i hm i (List.mem_singleton.2 rfl) rfl
      have hal3 : (p.foldl St.die A).alive i = true := by rw [foldl_die_alive _ _ hip]; exact hp.alive hal0 i rfl
      obtain ⟨a3, hk3, ha3⟩ := alive_lt hal3
      have heff : (p.foldl St.die A).eff i = A.eff i := foldl_eff p A i fun j hj hm => by
        obtain ⟨Lx, hx⟩ := row_last hrw j (List.mem_append_left _ hm)
        exact row_acy hf.acy _ _ _ hj hx
      have hsnd := (foldl_fit0 hf.fit0 p).snd
      have hdie : (p.foldl St.die A).die i = (p ++ [i]).foldl St.die A := by rw [List.foldl_append]; rfl
      rw [loopM_eq, ok_bnd]
      by_cases e : i = k
      · subst e
        refine ok_false (by simp) ?_
        refine ok_bnd.2 ?_
        refine ok_rcall C (rsender_spec C.th hsnd I3 hk3 rfl) ?_
        rintro _ w4 T4 C4 ⟨rfl, rfl⟩
        refine ok_rcall C4 (rends_spec C4.th I3 hk3 ha3 rfl) ?_
        rintro _ w5 T5 C hs5
        rw [hdie] at hs5
        have hLe := row_unique hf.acy hrow _ hrw
        rw [hLe]
        refine ok_rcall C (rback_spec C.th hs5 (A.eff i) ?_ v (by rw [heff])) ?_
        · intro j hj
          rw [foldl_die_alive]
          · exact eff_alive hj
          · intro hm
            obtain ⟨Lx, hx⟩ := row_last hrw j hm
            exact row_acy hf.acy _ _ _ hj hx
        · rintro _ w6 T6 C ⟨rfl, hs6⟩
          exact ok_ret.2 (ok_ret.2 (ok_ret.2 ⟨T6, C, rfl, hs6⟩))
      · refine ok_true (by simp only [bne_iff_ne, ne_eq]; omega) ?_
        refine ok_rcall C (rsender_spec C.th hsnd I3 hk3 rfl) ?_
        rintro _ w4 T4 C4 ⟨rfl, rfl⟩
        refine ok_rcall C4 (rends_spec C4.th I3 hk3 ha3 rfl) ?_
        rintro _ w5 T5 C hs5
        rw [hdie] at hs5
        refine ok_ret.2 ?_
        simp only
        have hkp2 : k ∉ p ++ [i] := by simp [hkp, Ne.symm e]
        obtain ⟨i2, L2, he2, _, _⟩ := hp.snoc.rest hrow hkp2
        rw [heff, he2]
        have hp2 := hp.snoc
        rw [he2] at hp2
        exact ih i2 he2 (p ++ [i]) hp2 hkp2 w5 T5 C hs5
  exact key i0 [] .nil (by simp) w2 T2 C ⟨S, L, I⟩
end
end Go.Proofs.Ytckfidopkajpaaa

/-
  The reference: Call.
-/
namespace Go.Proofs.Ytckfidopkajpaaa
set_option linter.unusedVariables false
open Go.Sh Go.RowKit
set_option maxRecDepth 100000
def AwayR (T : Rp) (w : World) (s : Sl) (l : List Int) : Prop := Arr w.heap.size w s (nums .i64 l) ∧ (l = [] ∨ ∃ b o, s.a = some ⟨b, o, none⟩ ∧ T b = none)
theorem AwayR.step {w w' : World} {T T' : Rp} {s : Sl} {l : List Int} (h : AwayR T w s l) (C : Tr ren w T w' T') : AwayR T' w' s l := by
  obtain ⟨⟨h1, h2, h3, h4⟩, h5⟩ := h
  rcases h5 with h5 | ⟨b, o, h5, h6⟩
  · exact ⟨⟨h1, h2, h3, .inl (by rw [h5]; rfl)⟩, .inl h5⟩
  · rcases h4 with h4 | ⟨b', o', c, h7, h8, h9, h10⟩
    · have : l = [] := by simpa [nums] using h4
      exact ⟨⟨h1, h2, h3, .inl h4⟩, .inl this⟩
    · rw [h5] at h7
      simp only [Option.some.injEq, Addr.mk.injEq, and_true] at h7
      obtain ⟨rfl, rfl⟩ := h7
      have hb : blk w' b = blk w b := blk_of (C.keep.block b h8 (by simpa using h6))
      refine ⟨⟨h1, h2, h3, .inr ⟨b, o, c, h5, by have := C.keep.size; omega, hb.trans h9, h10⟩⟩, .inr ⟨b, o, h5, ?_⟩⟩
      cases hT : T' b with
      | none => rfl
      | some o =>
        rcases C.new b (by rw [hT]; simp) with h | h
        · exact absurd h6 h
        · omega
theorem nums_flat (l : List Int) : nums .i64 l = l.flatMap iV := by
  induction l with
  | nil => rfl
  | cons x l ih => rw [List.flatMap_cons, ← ih]; rfl
section
variable {w0 w : World} {T0 T : Rp} {sb : Nat} {S : Rk} {L L' : List Ra} {A : St} {k b : Nat} {r : Ra} {α β : Type} {Q : α → World → Prop}
theorem rcall_spec (h : Th ren w T) (hf : A.Fit) (hal : A.acts.length ≤ 2200000000000) (I : RInv T sb S L A) (m : Int) {s : Sl} {ls : List Int} (hsl : AwayR T w s ls) (hll : ls.length ≤ 4294967296) (n : Int) (hn : -9223372036854775808 ≤ n ∧ n ≤ 9223372036854775807) (hn0 : ∀ k ∈ A.named, k < A.acts.length) :
    Sr (f40_palaverref23_Stack_Call (pt (some sb)) m s n) w T fun r _ T' => r = (A.call m ls n).1 ∧ Rs T' sb (A.call m ls n).2 := by
  unfold f40_palaverref23_Stack_Call St.call
  have hml : maxLen = 9223372036854775807 := by decide
  have C := Tr.refl h
  have hce := I.cells
  have hcm := I.cmax
  have hslen : s.len = ls.length := by have := hsl.1.1; simpa [nums] using this
  refine ok_bnd.2 (ok_mono (Q := fun b w' => b = decide (n < 0 ∨ n > A.cells) ∧ w' = w) ?_ ?_)
  · by_cases hx : n < 0
    · exact ok_true (by simpa using hx) (ok_ret.2 ⟨by simp [hx], rfl⟩)
    · refine ok_false (by simpa using hx) ?_
      refine ok_drfP ?_
      refine ok_tld C I.stk (x := S.cells) rfl (ok_ret.2 ⟨?_, rfl⟩)
      rw [hce]; simp [hx]
  rintro b3 w1 ⟨hb3, e1⟩
  subst e1
  refine ok_bnd.2 (ok_mono (Q := fun b w' => b = decide (n < 0 ∨ n > A.cells ∨ (ls.length : Int) + n + 4 > A.cells) ∧ w' = w1) ?_ ?_)
  · by_cases hx : n < 0 ∨ n > A.cells
    · refine ok_true (by rw [hb3]; simpa using hx) (ok_ret.2 ⟨?_, rfl⟩)
      symm; rw [decide_eq_true_eq]
      rcases hx with hx | hx
      · exact .inl hx
      · exact .inr (.inl hx)
    · refine ok_false (by rw [hb3]; simpa using hx) ?_
      refine ok_drfP ?_
      refine ok_tld C I.stk (x := S.cells) rfl (ok_ret.2 ⟨?_, rfl⟩)
      have e2 : IntKind.wrap .i64 (IntKind.wrap .i64 ((s.len : Int) + n) + 4) = (ls.length : Int) + n + 4 := by
        rw [hslen, wrapI_in (n := (ls.length : Int) + n) (by omega), wrapI_in (by omega)]
      rw [hce, e2, decide_eq_decide]
      constructor
      · intro hh; exact .inr (.inr hh)
      · rintro (hh | hh | hh)
        · exact absurd (.inl hh) hx
        · exact absurd (.inr hh) hx
        · exact hh
  rintro b6 w2 ⟨hb6, e2⟩
  subst e2
  by_cases hx : n < 0 ∨ n > A.cells ∨ (ls.length : Int) + n + 4 > A.cells
  · rw [if_pos hx]
    exact ok_true (by rw [hb6]; simpa using hx) (ok_ret.2 ⟨T, C, rfl, S, L, I⟩)
  rw [if_neg hx]
  refine ok_false (by rw [hb6]; simpa using hx) ?_
  refine ok_tdraw C fun w3 C => ?_
  have hlv := I.living
  have hmo := I.most
  have hmm := I.mmax
  have hlm := I.lmax
  refine ok_drfP ?_
  refine ok_tld C I.stk (x := S.living) rfl ?_
  refine ok_drfP ?_
  refine ok_tld C I.stk (x := S.most) rfl ?_
  by_cases hy : A.most ≤ A.living
  · rw [if_pos hy]
    exact ok_true (by rw [hlv, hmo]; simp only [ge_iff_le, decide_eq_true_eq]; omega) (ok_ret.2 ⟨T, C, rfl, S, L, I⟩)
  rw [if_neg hy]
  refine ok_false (by rw [hlv, hmo]; simp only [ge_iff_le, decide_eq_false_iff_not]; omega) ?_
  refine ok_drfP ?_
  refine ok_tld C I.stk (x := S.active) rfl ?_
  refine ok_tnew C (.rows [⟨0, ⟨none, 0, 0⟩, ⟨none, 0, 0⟩, 0, 0, false, 0⟩]) rfl fun p w4 hp C => ?_
  refine ok_twr0 C (.rows [⟨m, ⟨none, 0, 0⟩, ⟨none, 0, 0⟩, n, S.active, true, 0⟩]) (put_eq _ _ _) (by show 0 + 7 ≤ 7; decide) rfl rfl fun w5 C => ?_
  rw [put_put] at C
  refine ok_tld C (put_eq _ _ _) (x := (⟨none, 0, 0⟩ : Sl)) rfl ?_
  have hsl5 := hsl.step C
  have keep1 : ∀ c o, T c = some o → put T p (.rows [⟨m, ⟨none, 0, 0⟩, ⟨none, 0, 0⟩, n, S.active, true, 0⟩]) c = some o := fun c o hc => rput_new hc hp
  have hp1 := put_eq T p (.rows [⟨m, ⟨none, 0, 0⟩, ⟨none, 0, 0⟩, n, S.active, true, 0⟩])
  generalize put T p (.rows [⟨m, ⟨none, 0, 0⟩, ⟨none, 0, 0⟩, n, S.active, true, 0⟩]) = T1 at C hsl5 keep1 hp1
  have K : Src Try.prog 1 22 (.slice s.a s.len s.cap) s.len (ls.flatMap iV) w5 := by
    rw [← nums_flat]
    exact arr_src row22.und hsl5.1 (by rw [nums_flat]; exact flat_one' row22.one)
  refine ok_appR C row22 (mk := Rb.ints A.acts.length false) (l := []) (fun _ => rfl) (rw_nil _ _) K (by simp; omega) (by simp; omega) fun s2 w6 T2 C hs2 hT => ?_
  rw [List.nil_append] at hs2
  have keep2 : ∀ c o, T1 c = some o → T2 c = some o := fun c o hc => by
    rcases hT with ⟨rfl, _, _⟩ | ⟨fb, M, rfl, hra, hfb⟩
    · exact hc
    rcases hfb with h0 | ⟨h9, _⟩
    · exact rput_new hc h0
    · cases h9
  have hp2 := keep2 _ _ hp1
  have hst2 := keep2 _ _ (keep1 _ _ I.stk)
  clear hT K hsl5
  refine ok_twr C (.rows [⟨m, s2, ⟨none, 0, 0⟩, n, S.active, true, 0⟩]) hp2 (by show 0 + 1 + 1 ≤ 7; decide) rfl rfl fun w7 C => ?_
  have keep3 : ∀ c o, T2 c = some o → (∀ l, o ≠ .rows l) → put T2 p (.rows [⟨m, s2, ⟨none, 0, 0⟩, n, S.active, true, 0⟩]) c = some o := fun c o hc hne => rput_other hc hp2 (hne _)
  have keepR : ∀ c l, T c = some (.rows l) → put T2 p (.rows [⟨m, s2, ⟨none, 0, 0⟩, n, S.active, true, 0⟩]) c = some (.rows l) := fun c l hc => by
    rw [put_ne]
    · exact keep2 _ _ (keep1 _ _ hc)
    · rintro rfl; rw [hp] at hc; cases hc
  have hp3 := put_eq T2 p (.rows [⟨m, s2, ⟨none, 0, 0⟩, n, S.active, true, 0⟩])
  generalize put T2 p (.rows [⟨m, s2, ⟨none, 0, 0⟩, n, S.active, true, 0⟩]) = T3 at C keep3 hp3 keepR
  have hst3 := keep3 _ _ hst2 (by simp)
  have hs3 : Rw T3 (Rb.ints A.acts.length false) s2 ls := hs2.mono fun c l _ hc => keep3 _ _ hc (by simp)
  have hall3 : Rw T3 Rb.rows S.all L := I.all.mono fun c l _ hc => keepR _ _ hc
  simp only [bnd_as, bnd_ret]
  refine ok_tord C fun o w8 C => ?_
  refine ok_drfP ?_
  refine ok_tld C hst3 (x := S.all) rfl ?_
  refine ok_tld0 C hp3 (x := (m, s2, ⟨none, 0, 0⟩, n, S.active, true, 0)) rfl ?_
  refine ok_bnd.2 (ok_build1R row83 (by decide) (F := ⟨m, s2, ⟨none, 0, 0⟩, n, S.active, true, 0⟩) (v := .agg #[.int .i64 m, slV s2, .slice none 0 0, .int .i64 n, .int .i64 S.active, .bool true, .int .i64 0]) rfl ?_)
  have C1 := C.call ((Below.refl w8.heap.size w8).alloc (Nat.le_refl _) (.cells (Ra.en ⟨m, s2, ⟨none, 0, 0⟩, n, S.active, true, 0⟩).toArray 104))
  have hnb : blk (w8.alloc (.cells (Ra.en ⟨m, s2, ⟨none, 0, 0⟩, n, S.active, true, 0⟩).toArray 104)) w8.heap.size = some (Ra.en ⟨m, s2, ⟨none, 0, 0⟩, n, S.active, true, 0⟩).toArray := by rw [blk_alloc, if_pos rfl]
  generalize w8.alloc (.cells (Ra.en ⟨m, s2, ⟨none, 0, 0⟩, n, S.active, true, 0⟩).toArray 104) = w9 at C1 hnb
  refine ok_tchk C1 hst3 rfl ?_
  have K : Src Try.prog 7 83 (.slice (some ⟨w8.heap.size, 0, none⟩) 1 1) 1 (([⟨m, s2, ⟨none, 0, 0⟩, n, S.active, true, 0⟩] : List Ra).flatMap Ra.en) w9 := Src.ofSlice w9 row83.und ⟨w8.heap.size, 0, none⟩ 1 1 _ rfl (fun j u hj => by
    rw [addr_add, cell_blk hnb, Nat.zero_add, List.getElem?_toArray]; exact hj) (flat_one' row83.one)
  have hlen := I.len
  refine ok_appR C1 row83 (mk := Rb.rows) (fun _ => rfl) hall3 K (by simp; omega) (by simp; omega) fun s4 w10 T4 C hs4 hT => ?_
  have keep4 : ∀ c o, T3 c = some o → (∀ l, o ≠ .rows l) → T4 c = some o := fun c o hc hne => by
    rcases hT with ⟨_, _, h9⟩ | ⟨fb, M, rfl, hra, hfb⟩
    · cases h9
    rcases hfb with h0 | ⟨_, M0, hM⟩
    · exact rput_new hc h0
    · exact rput_other hc hM (hne _)
  have hst4 := keep4 _ _ hst3 (by simp)
  clear hT K hnb C1
  refine ok_drfP ?_
  refine ok_twr C (.stk { S with all := s4 }) hst4 (by simp [ren, Rk.en]) rfl rfl fun w11 C => ?_
  refine ok_drfP ?_
  refine ok_tld C (put_eq _ _ _) (x := s4) rfl ?_
  have hl4 : s4.len = A.acts.length + 1 := by rw [hs4.len]; simp [hlen]
  have e5 : IntKind.wrap .i64 ((s4.len : Int) - 1) = (A.acts.length : Int) := by rw [hl4, wrapI_in (by omega)]; omega
  rw [e5]
  refine ok_drfP ?_
  refine ok_twr C (.stk { S with all := s4, active := (A.acts.length : Int) }) (put_eq _ _ _) (by simp [ren, Rk.en]) rfl rfl fun w12 C => ?_
  rw [put_put] at C
  refine ok_drfP ?_
  refine ok_tld C (put_eq _ _ _) (x := S.living) rfl ?_
  have e6 : IntKind.wrap .i64 (S.living + 1) = (A.living : Int) + 1 := by rw [hlv, wrapI_in (by omega)]
  rw [e6]
  refine ok_drfP ?_
  refine ok_twr C (.stk { S with all := s4, active := (A.acts.length : Int), living := (A.living : Int) + 1 }) (put_eq _ _ _) (by simp [ren, Rk.en]) rfl rfl fun w13 C => ?_
  rw [put_put] at C
  refine ok_ret.2 ⟨_, C, rfl, { S with all := s4, active := (A.acts.length : Int), living := (A.living : Int) + 1 }, L ++ [⟨m, s2, ⟨none, 0, 0⟩, n, S.active, true, 0⟩], ?_⟩
  have keepF : ∀ c o, T c = some o → (∀ l, o ≠ .rows l) → (∀ s, o ≠ .stk s) → put T4 sb (.stk { S with all := s4, active := (A.acts.length : Int), living := (A.living : Int) + 1 }) c = some o := fun c o hc n1 n2 =>
    rput_other (keep4 _ _ (keep3 _ _ (keep2 _ _ (keep1 _ _ hc)) n1) n1) hst4 (n2 _)
  have hliv : ({ A with acts := A.acts ++ [⟨m, ls, [], n.toNat, A.active, true⟩], active := some A.acts.length } : St).living = A.living + 1 := by
    unfold St.living
    simp only
    rw [List.countP_append, List.countP_cons]
    simp; omega
  refine { I with stk := put_eq _ _ _, living := by rw [hliv]; simp, lmax := by rw [hliv]; show A.living + 1 ≤ A.most; omega, active := rfl, all := ?_, len := by simp [hlen], each := ?_, nmd := ?_, nlt := ?_, small := ?_ }
  · exact hs4.mono fun c l _ hc => rput_other hc hst4 (by simp)
  · intro j aj rj g1 g2
    have g1 : (A.acts ++ [⟨m, ls, [], n.toNat, A.active, true⟩])[j]? = some aj := g1
    rcases Nat.lt_or_ge j A.acts.length with hj | hj
    · rw [List.getElem?_append_left hj] at g1
      rw [List.getElem?_append_left (by omega)] at g2
      exact (I.each j aj rj g1 g2).mono (fun c t l hc => keepF _ _ hc (by simp) (by simp)) rfl
    · rw [List.getElem?_append_right hj] at g1
      rw [List.getElem?_append_right (by omega)] at g2
      have hj0 : j - A.acts.length = 0 := by
        rcases Nat.eq_zero_or_pos (j - A.acts.length) with h | h
        · exact h
        · rw [List.getElem?_eq_none (by simp; omega)] at g1; cases g1
      rw [hj0] at g1
      rw [hlen, hj0] at g2
      simp only [List.getElem?_cons_zero, Option.some.injEq] at g1 g2
      subst g1; subst g2
      have hjj : j = A.acts.length := by omega
      subst hjj
      refine ⟨rfl, ?_, I.active, rfl, ?_, hs3.mono fun c l _ hc => rput_other (keep4 _ _ hc (by simp)) hst4 (by simp), rw_nil _ _⟩
      · show n = ((n.toNat : Nat) : Int); omega
      · show 0 = St.num _ _
        unfold St.num
        rw [if_neg]
        exact fun hm => Nat.lt_irrefl _ (hn0 _ hm)
  · exact I.nmd.mono fun c l _ hc => keepF _ _ hc (by simp) (by simp)
  · intro j hj
    have := I.nlt j hj
    show j < (A.acts ++ [_]).length
    rw [List.length_append]; omega
  · intro j aj g1
    have g1 : (A.acts ++ [⟨m, ls, [], n.toNat, A.active, true⟩])[j]? = some aj := g1
    rcases Nat.lt_or_ge j A.acts.length with hj | hj
    · rw [List.getElem?_append_left hj] at g1
      exact I.small j aj g1
    · rw [List.getElem?_append_right hj] at g1
      have hj0 : j - A.acts.length = 0 := by
        rcases Nat.eq_zero_or_pos (j - A.acts.length) with h | h
        · exact h
        · rw [List.getElem?_eq_none (by simp; omega)] at g1; cases g1
      rw [hj0] at g1
      simp only [List.getElem?_cons_zero, Option.some.injEq] at g1
      subst g1
      simp only
      omega
end
end Go.Proofs.Ytckfidopkajpaaa
