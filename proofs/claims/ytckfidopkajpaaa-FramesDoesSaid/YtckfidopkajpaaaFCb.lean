/-
  Parts of the proof: FCa, FCb. It states what the functions do; no further condition.
-/
import Derived.Test.YtckfidopkajpaaaFBn
set_option linter.unusedVariables false
set_option linter.unusedSimpArgs false
/-
  The loop's record beside a heap of typed things; from sender to sender.
-/
namespace Go.Sh
set_option linter.unusedVariables false
open Go.RowKit
variable {O : Type} {en : O → List Value} {w0 w : World} {T0 T : Nat → Option O} {α : Type} {Q : α → World → Prop}
/-- Something lies there that is no thing of the map, and is newer than the beginning. -/
structure Bes (w0 w : World) (T : Nat → Option O) (b : Nat) (o : Obj) : Prop where
  at_ : w.heap[b]? = some o
  off : T b = none
  new : w0.heap.size ≤ b
theorem Bes.lt {b : Nat} {o : Obj} (h : Bes w0 w T b o) : b < w.heap.size := by
  rcases Nat.lt_or_ge b w.heap.size with h' | h'
  · exact h'
  · have := h.at_; rw [Array.getElem?_eq_none h'] at this; cases this
theorem Bes.step {w' : World} {T' : Nat → Option O} {b : Nat} {o : Obj} (h : Bes w0 w T b o) (C : Tr en w T w' T') : Bes w0 w' T' b o := by
  have hlt := h.lt
  refine ⟨(C.keep.block b hlt (by simpa using h.off)).trans h.at_, ?_, h.new⟩
  cases hT : T' b with
  | none => rfl
  | some o' =>
    rcases C.new b (by rw [hT]; simp) with h' | h'
    · exact absurd h.off h'
    · omega
theorem Tr.putObj (C : Tr en w0 T0 w T) {b : Nat} {o : Obj} (h : Bes w0 w T b o) (o' : Obj) : Tr en w0 T0 (w.putObj b o') T := by
  have hoth : ∀ i, i ≠ b → (w.putObj b o').heap[i]? = w.heap[i]? := fun i hi => World.putObj_heap_other hi
  refine ⟨fun i p hi => ?_, C.keep.trans (⟨rfl, rfl, rfl, by simp [World.putObj], fun i hi hn => hoth i hn⟩ : Keep (fun i => i = b) w (w.putObj b o')) (fun i hi => .inr (by subst hi; exact h.new)), C.new⟩
  have hne : i ≠ b := by rintro rfl; rw [h.off] at hi; cases hi
  obtain ⟨g1, g2⟩ := C.th i p hi
  exact ⟨(blk_of (hoth i hne)).trans g1, by unfold cln; rw [hoth i hne]; exact g2⟩
theorem Bes.put {b : Nat} {o : Obj} (h : Bes w0 w T b o) (o' : Obj) : Bes w0 (w.putObj b o') T b o' := ⟨World.putObj_heap_same h.lt, h.off, h.new⟩
theorem Bes.other {b c : Nat} {o p : Obj} (h : Bes w0 w T b o) (hc : b ≠ c) (p' : Obj) : Bes w0 (w.putObj c p') T b o := ⟨(World.putObj_heap_other hc).trans h.at_, h.off, h.new⟩
def rcd (f : FuncId) (tm : List Value) (ps : Array Tmp) (assign body : Code) (D : Nat) (st : LoopState) (pe : Option Code) : Obj := .loop { state := st, pending := pe, fn := f, tmps := tm.toArray, params := ps, assign, body, defers := D }
theorem ok_enter (C : Tr en w0 T0 w T) {f : FuncId} {tm : List Value} {ps : Array Tmp} {assign body : Code} {k : Nat → M α}
    (hq : ∀ D w', Tr en w0 T0 w' T → Bes w0 w' T D (.deferred (some [])) → Bes w0 w' T (D + 1) (rcd f tm ps assign body D .ready none) → Ok (k D) w' Q) : Ok (bnd (enterM f tm ps assign body) k) w Q := by
  refine ok_bnd.2 ⟨_, _, rfl, hq _ _ ?_ ?_ ?_⟩
  · exact C.call (((Below.refl _ _).alloc (Nat.le_refl _) _).alloc (by show w.heap.size ≤ (w.heap.push _).size; rw [Array.size_push]; omega) _)
  · refine ⟨?_, C.none_at, C.keep.size⟩
    rw [heap_alloc, if_neg (by show w.heap.size ≠ (w.heap.push _).size; rw [Array.size_push]; omega), heap_alloc, if_pos rfl]
  · refine ⟨?_, ?_, by have := C.keep.size; omega⟩
    · rw [heap_alloc, if_pos (by show w.heap.size + 1 = (w.heap.push _).size; rw [Array.size_push])]; rfl
    · cases h : T (w.heap.size + 1) with
      | none => rfl
      | some o => have := C.th.lt h; omega
section
variable {P : Program} {f : FuncId} {tm : List Value} {ps : Array Tmp} {assign body : Code} {D : Nat} {st : LoopState} {pe : Option Code}
theorem ok_rec (h : Bes w0 w T (D + 1) (rcd f tm ps assign body D st pe)) {k : Unit → M α} (hq : Ok (k ()) w Q) : Ok (bnd (recM f tm ps assign body D) k) w Q := by
  refine ok_bnd.2 ⟨(), w, ?_, hq⟩
  unfold recM
  rw [if_pos ⟨st, pe, h.at_⟩]
theorem ok_sem {β : Type} {s : Sem β} {v : β} {w' : World} (h : s.run P w = .ok v w') {k : β → M α} (hq : Ok (k v) w' Q) : Ok (bnd (semM P s) k) w Q := by
  refine ok_bnd.2 ⟨v, w', ?_, hq⟩
  unfold semM
  rw [h]
theorem ok_begin (C : Tr en w0 T0 w T) (h : Bes w0 w T (D + 1) (rcd f tm ps assign body D .ready pe)) {k : Unit → M α} (hq : ∀ w', Tr en w0 T0 w' T → Bes w0 w' T (D + 1) (rcd f tm ps assign body D .busy pe) → (∀ o, Bes w0 w T D o → Bes w0 w' T D o) → (∃ o, w' = w.putObj (D + 1) o) → Ok (k ()) w' Q) : Ok (bnd (beginM P (D + 1)) k) w Q := by
  refine ok_sem (run_beginRound h.at_ rfl) (hq _ (C.putObj h _) (h.put _) (fun o ho => ho.other (p := rcd f tm ps assign body D .ready pe) (by omega) _) ⟨_, rfl⟩)
theorem ok_end (C : Tr en w0 T0 w T) (h : Bes w0 w T (D + 1) (rcd f tm ps assign body D st pe)) (j : Option Code) {R : Bool → World → Prop} (hq : ∀ w', Tr en w0 T0 w' T → Bes w0 w' T (D + 1) (rcd f tm ps assign body D (if j.isNone then .ready else .done) j) → (∀ o, Bes w0 w T D o → Bes w0 w' T D o) → (∃ o, w' = w.putObj (D + 1) o) → R j.isNone w') : Ok (endM P (D + 1) j) w R := by
  unfold endM
  exact ok_runV (run_endRound j h.at_) (x := j.isNone) rfl (hq _ (C.putObj h _) (h.put _) (fun o ho => ho.other (p := rcd f tm ps assign body D st pe) (by omega) _) ⟨_, rfl⟩)
theorem ok_leave (C : Tr en w0 T0 w T) (h : Bes w0 w T (D + 1) (rcd f tm ps assign body D st pe)) (hb : st ≠ .busy) {k : Option Code → M α} (hq : ∀ w', Tr en w0 T0 w' T → (∀ o, Bes w0 w T D o → Bes w0 w' T D o) → (∃ o, w' = w.putObj (D + 1) o) → Ok (k pe) w' Q) : Ok (bnd (leaveM P (D + 1)) k) w Q := by
  refine ok_sem (run_endLoop h.at_ hb) (hq _ (C.putObj h _) (fun o ho => ho.other (p := rcd f tm ps assign body D st pe) (by omega) _) ⟨_, rfl⟩)
theorem ok_take (C : Tr en w0 T0 w T) (h : Bes w0 w T D (.deferred (some []))) {k : Unit → M α} (hq : ∀ w', Tr en w0 T0 w' T → Ok (k ()) w' Q) : Ok (bnd (takeM P D) k) w Q := by
  unfold takeM
  rw [bnd_bnd]
  exact ok_sem (run_takeDeferred h.at_) (hq _ (C.putObj h _))
end
end Go.Sh

/-
  From sender to sender: paths; what 'row' does with what it is given to do; behind.
-/
namespace Go.Proofs.Ytckfidopkajpaaa
set_option linter.unusedVariables false
open Go.Sh Go.RowKit
set_option maxRecDepth 100000
variable {w : World} {T : Hp} {sb : Nat} {S : Sk} {A : St} {G : Gh}
/-- How far one has come from one's beginning. -/
inductive St.Pre (A : St) (j : Nat) : List Nat → Option Nat → Prop
  | nil : Pre A j [] (some j)
  | snoc {l : List Nat} {i : Nat} : Pre A j l (some i) → Pre A j (l ++ [i]) (A.eff i)
theorem St.Row.snoc {A : St} {j i k : Nat} {l : List Nat} (h : A.Row j l i) (he : A.eff i = some k) : A.Row j (l ++ [k]) k := by
  induction h with
  | one i => exact .next he (.one k)
  | next h1 _ ih => exact .next h1 (ih he)
theorem St.Pre.row {A : St} {j : Nat} {l : List Nat} {e : Option Nat} (h : A.Pre j l e) : ∀ i, e = some i → A.Row j (l ++ [i]) i := by
  induction h with
  | nil => rintro i h; rw [Option.some.injEq] at h; subst h; exact .one j
  | snoc h ih => rintro k hk; exact (ih _ rfl).snoc hk
theorem St.Pre.rest {A : St} {j k : Nat} {l L : List Nat} {e : Option Nat} (h : A.Pre j l e) (hr : A.Row j L k) (hn : k ∉ l) : ∃ i L', e = some i ∧ A.Row i L' k ∧ L = l ++ L' := by
  induction h with
  | nil => exact ⟨j, L, rfl, hr, rfl⟩
  | @snoc l i h ih =>
    obtain ⟨i', L', h1, h2, h3⟩ := ih (fun hm => hn (List.mem_append_left _ hm))
    rw [Option.some.injEq] at h1
    subst h1
    cases h2 with
    | one => exact absurd (List.mem_append_right _ (List.mem_singleton.2 rfl)) hn
    | next h4 h5 => exact ⟨_, _, h4, h5, by rw [h3]; simp⟩
theorem St.Pre.alive {A : St} {j : Nat} {l : List Nat} {e : Option Nat} (h : A.Pre j l e) (hj : A.alive j = true) : ∀ i, e = some i → A.alive i = true := by
  cases h with
  | nil => rintro i h; rw [Option.some.injEq] at h; subst h; exact hj
  | snoc h => intro i hi; exact eff_alive hi
theorem row_acy {A : St} (h : ∀ i, Acc (fun j i => A.eff i = some j) i) : ∀ x y l, A.eff x = some y → A.Row y l x → False := by
  intro x
  induction h x with
  | intro x _ ih =>
    intro y l hy hr
    cases hr with
    | one => exact ih x hy x _ hy (.one x)
    | next h1 h2 => exact ih y hy _ _ h1 (h2.snoc hy)
theorem row_unique {A : St} (h : ∀ i, Acc (fun j i => A.eff i = some j) i) {i k : Nat} {l : List Nat} (h1 : A.Row i l k) : ∀ l', A.Row i l' k → l = l' := by
  induction h1 with
  | one i =>
    intro l' h2
    cases h2 with
    | one => rfl
    | next h3 h4 => exact (row_acy h _ _ _ h3 h4).elim
  | next h3 h4 ih =>
    intro l' h2
    cases h2 with
    | one => exact (row_acy h _ _ _ h3 h4).elim
    | next h5 h6 =>
      rw [h3, Option.some.injEq] at h5
      subst h5
      rw [ih _ h6]
/-- Row, if what is given keeps I from one to the next, or ends with X. -/
theorem row_do {j : Nat} (hacc : ∀ i, Acc (fun j i => A.eff i = some j) i) {B : Option Addr → M Bool} {I I2 : List Nat → Option Nat → Option Addr → World → Prop} {X : List Nat → World → Prop}
    (hB : ∀ l i p w, A.Pre j l (some i) → I l (some i) p w → Ok (B p) w fun b w' => (b = true ∧ I2 l (some i) p w') ∨ (b = false ∧ X (l ++ [i]) w'))
    (hF : ∀ l i p w, A.Pre j l (some i) → I2 l (some i) p w → Ok (f37_frames_context_from p) w fun p' w' => I (l ++ [i]) (A.eff i) p' w')
    (hN : ∀ l e p w, I l e p w → p.isNone = e.isNone) :
    ∀ (l : List Nat) (e : Option Nat) (p : Option Addr) (w : World), A.Pre j l e → I l e p w → Ok (f80_row B p) w fun _ w' => (∃ l' p', A.Pre j l' none ∧ I l' none p' w') ∨ ∃ l' i, A.Pre j l' (some i) ∧ X (l' ++ [i]) w' := by
  unfold f80_row
  have key : ∀ i l p w, A.Pre j l (some i) → I l (some i) p w → Ok (loopM (fun (s1 : Option Addr) => cnd (!(Option.isNone s1)) (bnd (B s1) fun (b2 : Bool) => cnd (!b2) (ret (Sum.inr ())) (bnd (f37_frames_context_from s1) fun (r3 : Option Addr) => ret (Sum.inl r3))) (ret (Sum.inr ()))) p) w
      fun (_ : Unit) w' => (∃ l' p', A.Pre j l' none ∧ I l' none p' w') ∨ ∃ l' i, A.Pre j l' (some i) ∧ X (l' ++ [i]) w' := by
    intro i
    induction hacc i with
    | intro i _ ih =>
      intro l p w hp hI
      rw [loopM_eq, ok_bnd]
      have hn := hN _ _ _ _ hI
      refine ok_true (by rw [hn]; rfl) ?_
      refine ok_bnd.2 (ok_mono (hB l i p w hp hI) ?_)
      rintro b w1 (⟨rfl, h1⟩ | ⟨rfl, h1⟩)
      · refine ok_false rfl ?_
        refine ok_bnd.2 (ok_mono (hF l i p w1 hp h1) ?_)
        intro p' w2 h2
        refine ok_ret.2 ?_
        simp only
        cases he : A.eff i with
        | none =>
          rw [he] at h2
          rw [loopM_eq, ok_bnd]
          have hn2 := hN _ _ _ _ h2
          refine ok_false (by rw [hn2]; rfl) (ok_ret.2 (ok_ret.2 (.inl ⟨_, p', ?_, h2⟩)))
          have := hp.snoc
          rw [he] at this
          exact this
        | some k =>
          rw [he] at h2
          refine ih k he _ p' w2 ?_ h2
          have := hp.snoc
          rw [he] at this
          exact this
      · exact ok_true rfl (ok_ret.2 (ok_ret.2 (.inr ⟨l, i, hp, h1⟩)))
  intro l e p w hp hI
  cases e with
  | some i => exact key i l p w hp hI
  | none =>
    rw [loopM_eq, ok_bnd]
    have hn := hN _ _ _ _ hI
    exact ok_false (by rw [hn]; rfl) (ok_ret.2 (ok_ret.2 (.inl ⟨l, p, hp, hI⟩)))
theorem ld_cellv {v : Value} {t : Ty} {x : t.den} (h : rdv t [v].toArray 0 = some x) : rdv t (en (.cellv v)).toArray 0 = some x := h
theorem slt60 : Try.prog.underlying 60 = some (.pointer 97) := by kernel_rfl
theorem inf97 : Try.prog.info? 97 = some Try.t97 := by kernel_rfl
theorem siz97 : Try.t97.size ≠ 0 := by decide
/-- Two contexts, held against each other. -/
theorem ok_ctxEq {α : Type} {w0 : World} {T0 : Hp} (C : Tr en w0 T0 w T) (I : Inv T sb S A G) {i k c d : Nat} (hi : G.cx i = some c) (hk : G.cx k = some d) {f : Bool → M α} {Q : α → World → Prop} (hq : Ok (f (decide (i = k))) w Q) :
    Ok (bnd (runV Try.prog .bool (binOp .eql 60 (.pointer (pt (some c))) (.pointer (pt (some d))))) f) w Q := by
  obtain ⟨X, a, kc⟩ := I.ctx i c hi
  obtain ⟨Y, b, kd⟩ := I.ctx k d hk
  refine ok_tpeq C slt60 inf97 siz97 kc.ctx kd.ctx ?_
  have : decide (c = d) = decide (i = k) := by
    by_cases e : i = k
    · subst e
      rw [hi, Option.some.injEq] at hk
      simp [hk]
    · have : c ≠ d := by rintro rfl; exact e (I.inj _ _ _ hi hk)
      simp [e, this]
  rw [this]
  exact hq
theorem behind_does : BehindDoes := by
  intro w T sb S A G c d j k h hf I hcj hal hck
  unfold f65_frames_context_behind
  have C := Tr.refl h
  refine ok_tnew C (.cellv (.pointer (pt (some d)))) rfl fun p1 w1 hp1 C => ?_
  have I1 := I.grow (T2 := put T p1 (.cellv (.pointer (pt (some d))))) fun b o hb => put_new hb hp1
  have g1 := put_eq T p1 (.cellv (.pointer (pt (some d))))
  generalize put T p1 (.cellv (.pointer (pt (some d)))) = T1 at C I1 g1
  refine ok_tnew C (.cellv (.bool false)) rfl fun p2 w2 hp2 C => ?_
  have I2 := I1.grow (T2 := put T1 p2 (.cellv (.bool false))) fun b o hb => put_new hb hp2
  have g2 := put_eq T1 p2 (.cellv (.bool false))
  have g1' : put T1 p2 (.cellv (.bool false)) p1 = some (.cellv (.pointer (pt (some d)))) := put_new g1 hp2
  generalize put T1 p2 (.cellv (.bool false)) = T2 at C I2 g2 g1'
  refine ok_enter C fun D w3 C b1 b2 => ?_
  have hrow : ∀ (b : Bool), (b = true ↔ ∃ l, St.Row A j l k) → b = A.behind j k := by
    intro b hb
    unfold St.behind
    rw [Bool.eq_iff_iff, hb]
    exact (@decide_eq_true_iff _ (Classical.propDecidable _)).symm
  generalize htm : ([.pointer (pt (some c)), .pointer (pt (some d)), undef, .pointer (some ⟨p1, 0, none⟩), .pointer (some ⟨p2, 0, none⟩), undef, .pointer (pt (some c)), .func (.func 80) #[.pointer (pt (some c))] #[], undef, undef, undef, undef] : List Value) = tm at b2 ⊢
  -- while it goes on
  let J : List Nat → Option Nat → Option Addr → World → Prop := fun l e p w' => k ∉ l ∧ ∃ (T' : Hp) (cx' : Nat → Option Nat) (c' : Option Nat), Tr en w T w' T' ∧ (∀ k b, G.cx k = some b → cx' k = some b) ∧ Inv T' sb S A { G with cx := cx' } ∧ p = pt c' ∧ Cn cx' c' e ∧ T' p1 = some (.cellv (.pointer (pt (some d)))) ∧ T' p2 = some (.cellv (.bool false)) ∧
    Bes w w' T' D (.deferred (some [])) ∧ Bes w w' T' (D + 1) (rcd 65 tm (rgIn Try.f65).1 (rgIn Try.f65).2.1 (rgIn Try.f65).2.2 D .ready none)
  let J2 : List Nat → Option Nat → Option Addr → World → Prop := fun l e p w' => (∀ i, e = some i → i ≠ k) ∧ J l e p w'
  let X : List Nat → World → Prop := fun l w' => l.getLast? = some k ∧ ∃ (T' : Hp) (cx' : Nat → Option Nat), Tr en w T w' T' ∧ (∀ k b, G.cx k = some b → cx' k = some b) ∧ Inv T' sb S A { G with cx := cx' } ∧ T' p2 = some (.cellv (.bool true)) ∧
    Bes w w' T' D (.deferred (some [])) ∧ Bes w w' T' (D + 1) (rcd 65 tm (rgIn Try.f65).1 (rgIn Try.f65).2.1 (rgIn Try.f65).2.2 D .done (some .ret))
  refine ok_bnd.2 (ok_mono (row_do (A := A) (j := j) hf.acy (I := J) (I2 := J2) (X := X) ?_ ?_ ?_ [] (some j) (pt (some c)) w3 .nil ⟨by simp, T2, G.cx, some c, C, fun _ _ h => h, I2, rfl, ⟨c, rfl, hcj⟩, g1', g2, b1, b2⟩) ?_)
  · -- a round
    rintro l i p w4 hp ⟨hn, T4, cx4, c', C, hext, I4, rfl, hcn, e1, e2, e3, e4⟩
    obtain ⟨ci, rfl, hci⟩ := hcn
    refine ok_rec e4 ?_
    refine ok_begin C e4 fun w5 C e4 k5 _ => ?_
    refine ok_tld0 C e1 (x := pt (some d)) rfl ?_
    refine ok_ctxEq C I4 hci (hext _ _ hck) ?_
    by_cases hik : i = k
    · subst hik
      refine ok_true (by simp) ?_
      refine ok_twr0 (Tr.refl C.th) (.cellv (.bool true)) e2 (by simp [en]) rfl rfl fun w6 C6 => ?_
      have I5 : Inv (put T4 p2 (.cellv (.bool true))) sb S A { G with cx := cx4 } := I4.move (put_other I4.stk e2 (by simp)) ⟨rfl, rfl, rfl, rfl, rfl⟩ (fun b C h => put_other h e2 (by simp)) (fun b o L h => put_other h e2 (by simp)) (fun b L h => put_other h e2 (by simp)) (fun b L h => put_other h e2 (by simp)) fun p hp => by
        obtain ⟨P, fl, cb, cl, hP⟩ := I4.page p hp
        exact ⟨P, fl, cb, cl, hP.mono (fun P h => put_other h e2 (by simp)) (fun b L h => put_other h e2 (by simp)) (fun b L h => put_other h e2 (by simp))⟩
      refine ok_end (C.trans C6) (e4.step C6) (some .ret) fun w7 C e4 k6 _ => .inr ⟨rfl, by simp, _, cx4, C, hext, I5, put_eq _ _ _, k6 _ ((k5 _ e3).step C6), e4⟩
    · refine ok_false (by simpa using hik) ?_
      refine ok_end C e4 none fun w6 C e4 k6 _ => .inl ⟨rfl, ?_, hn, T4, cx4, some ci, C, hext, I4, rfl, ⟨ci, rfl, hci⟩, e1, e2, k6 _ (k5 _ e3), e4⟩
      rintro _ h'; rw [Option.some.injEq] at h'; subst h'; exact hik
  · rintro l i p w4 hp ⟨hne, hn, T4, cx4, c', C, hext, I4, rfl, hcn, e1, e2, e3, e4⟩
    obtain ⟨ci, rfl, hci⟩ := hcn
    have hali : A.alive i = true := hp.alive hal i rfl
    refine ok_mono (from_spec C.th I4 hci hali) ?_
    rintro p' w5 ⟨T5, D5, cx5, c5, x5, I5, rfl, hc5, hk5⟩
    refine ⟨by simp [hn, Ne.symm (hne i rfl)], T5, cx5, c5, C.trans D5, fun k b h => x5 _ _ (hext _ _ h), I5, rfl, hc5, hk5 _ _ e1 (by simp), hk5 _ _ e2 (by simp), e3.step D5, e4.step D5⟩
  · rintro l e p w4 ⟨hn, T4, cx4, c', C, hext, I4, rfl, hcn, e1, e2, e3, e4⟩
    cases e with
    | none => have hcn : c' = none := hcn; subst hcn; rfl
    | some i => obtain ⟨ci, rfl, hci⟩ := hcn; rfl
  · rintro _ w4 (⟨l', p', hp, hn, T4, cx4, c', C, hext, I4, _, _, e1, e2, e3, e4⟩ | ⟨l', i, hp, hl, T4, cx4, C, hext, I4, e2, e3, e4⟩)
    · refine ok_leave C e4 (by simp) fun w5 C k5 _ => ?_
      refine ok_twr0 (Tr.refl C.th) (.cellv (.bool false)) e2 (by simp [en]) rfl rfl fun w6 C6 => ?_
      rw [put_same e2] at C6
      refine ok_take (C.trans C6) ((k5 _ e3).step C6) fun w7 C => ?_
      refine ok_tld0 C e2 (x := false) rfl ?_
      refine ok_ret.2 ⟨T4, C, hrow _ ⟨fun h => (by cases h), ?_⟩, cx4, hext, I4⟩
      rintro ⟨L, hL⟩
      obtain ⟨i, L', h1, _⟩ := hp.rest hL hn
      cases h1
    · refine ok_leave C e4 (by simp) fun w5 C k5 _ => ?_
      refine ok_take C (k5 _ e3) fun w7 C => ?_
      refine ok_tld0 C e2 (x := true) rfl ?_
      refine ok_ret.2 ⟨T4, C, hrow _ ⟨fun _ => ?_, fun _ => rfl⟩, cx4, hext, I4⟩
      rw [List.getLast?_append, List.getLast?_singleton] at hl
      simp only [Option.some_or, Option.some.injEq] at hl
      subst hl
      exact ⟨_, hp.row i rfl⟩
end Go.Proofs.Ytckfidopkajpaaa
