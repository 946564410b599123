/-
  Parts of the proof: FI, FJ, FK. It states what the functions do; no further condition.
-/
import Derived.Test.YtckfidopkajpaaaFH
set_option linter.unusedVariables false
set_option linter.unusedSimpArgs false
/-
  The first of divorce's two loops: what a context needs on its own is laid into it.
-/
namespace Go.Proofs.Ytckfidopkajpaaa
set_option linter.unusedVariables false
open Go.Sh Go.RowKit
set_option maxRecDepth 100000
variable {w : World} {T : Hp} {sb : Nat} {S : Sk} {A : St} {G : Gh}
theorem ok_drfP {α : Type} {p : Nat} {f : Addr → M α} {Q : α → World → Prop} (h : Ok (f ⟨p, 0, none⟩) w Q) : Ok (bnd (drf (pt (some p))) f) w Q := ok_drfS h
/-- The first loop, up to what comes behind it. -/
theorem divorce1 {from_ : Nat} {p : Nat} (hp : p ∈ G.pl) {ρ : Type} {K : M (Int ⊕ ρ)} {Q : ρ → World → Prop} {w0 : World} {T0 : Hp} (C : Tr en w0 T0 w T) (I : Inv T sb S A G) (hfr : from_ ≤ (G.fid p).length)
    (hK : ∀ w' T' cx', Tr en w0 T0 w' T' → Inv T' sb S A { G with cx := cx' } → (∀ k b, G.cx k = some b → cx' k = some b) → (∀ k id, from_ ≤ k → (G.fid p)[k]? = some id → ∃ c X a, Rdy T' A cx' id c X a) → Ok K w' fun r w'' => match r with | .inl _ => False | .inr x => Q x w'') :
    Ok (loopM (fun (s1 : Int) =>
  bnd (drf (pt (some p))) fun (p2 : Addr) =>
  bnd (ld .sl (Addr.add p2 1)) fun (v3 : Sl) =>
  cnd (decide (s1 < (v3.len : Int))) (
  bnd (
  bnd (ordM 71 3 (regionIn 3 Try.f71)) fun (o5 : List Nat) =>
  bnd (drf (pt (some p))) fun (p6 : Addr) =>
  bnd (ld .sl (Addr.add p6 1)) fun (v7 : Sl) =>
  bnd (ix 6 v7 s1) fun (p8 : Addr) =>
  bnd (f30_frames_page_marry (pt (some p)) s1) fun (r9 : Option Addr) =>
  bnd (
  bnd (chk .sl (Addr.add p6 1) v7) fun _ =>
  ret ()) fun _ =>
  ret (r9, p8)) fun (s4 : (Option Addr × Addr)) =>
  bnd (
  bnd (ordM 71 4 (regionIn 4 Try.f71)) fun (o11 : List Nat) =>
  bnd (ld (.int .i64) (Addr.add s4.2 0)) fun (v12 : Int) =>
  bnd (ld (.int .i64) (Addr.add s4.2 4)) fun (v13 : Int) =>
  bnd (f72_frames_page_sender (pt (some p)) s1) fun (r14 : Option Addr) =>
  bnd (
  bnd (chk (.int .i64) (Addr.add s4.2 4) v13) fun _ =>
  bnd (chk (.int .i64) (Addr.add s4.2 0) v12) fun _ =>
  ret ()) fun _ =>
  bnd (drf s4.1) fun (p15 : Addr) =>
  bnd (wrs (Addr.add p15 4) 0 [.int .i64 v12]) fun _ =>
  bnd (ret ()) fun _ =>
  bnd (drf s4.1) fun (p16 : Addr) =>
  bnd (wrs (Addr.add p16 7) 0 [.int .i64 v13]) fun _ =>
  bnd (ret ()) fun _ =>
  bnd (drf s4.1) fun (p17 : Addr) =>
  bnd (wrs (Addr.add p17 8) 0 [.pointer r14]) fun _ =>
  bnd (ret ()) fun _ =>
  ret ()) fun (s10 : Unit) =>
  bnd (f70_frames_page_slots (pt (some p)) (some s4.2)) fun (r18 : Sl) =>
  bnd (f64_slices_Cloneint64_int64 r18) fun (r19 : Sl) =>
  bnd (f34_frames_page_stack (pt (some p)) (some s4.2)) fun (r20 : Sl) =>
  bnd (f64_slices_Cloneint64_int64 r20) fun (r21 : Sl) =>
  bnd (drf s4.1) fun (p22 : Addr) =>
  bnd (wrs (Addr.add p22 5) 0 [.slice r19.a r19.len r19.cap]) fun _ =>
  bnd (drf s4.1) fun (p23 : Addr) =>
  bnd (wrs (Addr.add p23 6) 0 [.slice r21.a r21.len r21.cap]) fun _ =>
  ret (Sum.inl (IntKind.wrap .i64 (s1 + (1 : Int))))) K) (from_ : Int)) w Q := by
  refine ok_loop (fun (q : Int) w' => ∃ i : Nat, q = i ∧ from_ ≤ i ∧ i ≤ (G.fid p).length ∧ ∃ T' cx', Tr en w0 T0 w' T' ∧ Inv T' sb S A { G with cx := cx' } ∧ (∀ k b, G.cx k = some b → cx' k = some b) ∧ (∀ k id, from_ ≤ k → k < i → (G.fid p)[k]? = some id → ∃ c X a, Rdy T' A cx' id c X a))
    (fun q _ => (((G.fid p).length : Int) - q).toNat) ?_ _ _ ⟨from_, rfl, Nat.le_refl _, hfr, T, G.cx, C, I, fun _ _ h => h, fun k id h1 h2 => by omega⟩
  clear C I
  rintro q w ⟨i, rfl, hi1, hi2, T, cx, C, I, hext, hrdy⟩
  have hcm := I.cmax
  obtain ⟨P, fl, cb, cl, hP⟩ := I.page p hp
  have hlen : P.frames.len = (G.fid p).length := hP.frames.len.trans hP.cnt
  refine ok_drfP ?_
  refine ok_tld C hP.page (x := P.frames) rfl ?_
  by_cases hlt : i < (G.fid p).length
  rotate_left
  · refine ok_false (by simp only [decide_eq_false_iff_not]; omega) ?_
    refine ok_mono (hK w T cx C I hext fun k id h1 h2 => hrdy k id h1 ?_ h2) ?_
    · rcases Nat.lt_or_ge k i with h | h
      · exact h
      · rw [List.getElem?_eq_none (by omega)] at h2; cases h2
    · intro r w' h
      cases r with
      | inl _ => exact h.elim
      | inr x => exact h
  refine ok_true (by simp only [decide_eq_true_eq]; omega) ?_
  obtain ⟨id, hid⟩ : ∃ id, (G.fid p)[i]? = some id := ⟨_, List.getElem?_eq_getElem hlt⟩
  obtain ⟨fb, L, ha, _⟩ := hP.frames.blk (by have := hP.cnt; simp only at this; omega)
  obtain ⟨a, hact⟩ : ∃ a, A.acts[id]? = some a := by
    obtain ⟨_, _, _, _, _, _, _, a, _, _, _, _, _, _, h, _⟩ := I.pageAt hp hid
    exact ⟨a, h.act⟩
  have hloc : G.loc id = some (p, i) := I.l1 p i id hp hid
  have hl : G.loc id ≠ none := by rw [hloc]; simp
  simp only [bnd_as, bnd_ret]
  -- its context
  refine ok_tord C fun o w C => ?_
  refine ok_drfP ?_
  refine ok_tld C hP.page (x := P.frames) rfl ?_
  refine ok_ixN ha (by omega) (by omega) ?_
  rw [Int.toNat_natCast]
  refine ok_tcall C (marry_spec C.th I hp hid) ?_
  rintro r w T1 C ⟨c, rfl, I1, e1, k1⟩
  have hP1 := k1 _ _ hP.page (by simp)
  refine ok_tchk C hP1 rfl ?_
  refine ok_tord C fun o w C => ?_
  obtain ⟨fl1, cb1, cl1, L1, F1, hp1, hb1, hF1, hf1⟩ := I1.pageAt2 hp hid hP1 ha hact
  refine ok_tld C hb1 (x := F1.method) (rd_fr hF1 (by decide) rfl) ?_
  refine ok_tld C hb1 (x := F1.room) (rd_fr hF1 (by decide) rfl) ?_
  refine ok_tcall C (sender_spec C.th I1 hp hid) ?_
  rintro r w T2 C ⟨cx2, sd, e2, I2, rfl, hsn, k2⟩
  simp only at I2 e2 hsn e1
  have hP2 := k2 _ _ hP1 (by simp)
  obtain ⟨fl2, cb2, cl2, L2, F2, hp2, hb2, hF2, hf2⟩ := I2.pageAt2 hp hid hP2 ha hact
  have q1 : F1.method = F2.method := hf1.method.trans hf2.method.symm
  have q2 : F1.room = F2.room := hf1.room.trans hf2.room.symm
  rw [q1, q2]
  refine ok_tchk C hb2 (rd_fr hF2 (by decide) rfl) ?_
  refine ok_tchk C hb2 (rd_fr hF2 (by decide) rfl) ?_
  have hcx2 : cx2 id = some c := e2 _ _ (cxu_eq _ _ _)
  obtain ⟨X, a', hX⟩ := I2.ctx id c hcx2
  refine ok_drfP ?_
  refine ok_ctw C { X with method := F2.method } hX.ctx (by decide) rfl rfl fun w C => ?_
  refine ok_drfP ?_
  refine ok_ctw C { X with method := F2.method, room := F2.room } (put_eq _ _ _) (by decide) rfl rfl fun w C => ?_
  refine ok_drfP ?_
  refine ok_ctw C { X with method := F2.method, room := F2.room, sender := sd } (put_eq _ _ _) (by decide) rfl rfl fun w C => ?_
  rw [put_put, put_put] at C
  have I3 := I2.ctPut (C' := { X with method := F2.method, room := F2.room, sender := sd }) hcx2 hX.ctx hl ⟨rfl, rfl, rfl, rfl⟩
  have k3 : ∀ b o, T2 b = some o → (∀ C, o ≠ .ctx C) → put T2 c (.ctx { X with method := F2.method, room := F2.room, sender := sd }) b = some o := fun b o h hn => put_other h hX.ctx (hn X)
  have hX3 := put_eq T2 c (.ctx { X with method := F2.method, room := F2.room, sender := sd })
  have n3 : ∀ b, b ≠ c → put T2 c (.ctx { X with method := F2.method, room := F2.room, sender := sd }) b = T2 b := fun b h => put_ne _ h
  generalize hT3 : put T2 c (.ctx { X with method := F2.method, room := F2.room, sender := sd }) = T3 at C I3 k3 hX3 n3
  have sm := hf2.small I2.cmax
  have hcl : P.cells.a = some ⟨cb2, 0, none⟩ := by rw [hp2.cells]
  have hcc : F2.fin ≤ P.cells.cap := by rw [hp2.cells]; exact hf2.fin
  have hsl := hf2.slots; have hdp := hf2.depth; have hrm := hf2.room; have hft := hf2.fits; have hbs := hf2.base; have hfn := hf2.fin
  unfold Fr.fin at hfn
  -- its slots
  refine ok_trd C (slots_spec C.th (k3 _ _ hP2 (by simp)) (k3 _ _ hb2 (by simp)) hF2 sm hcl hcc) fun w C => ?_
  refine ok_tcall C (clone_spec (l := a.slots) C.th (arr_of (off := F2.base.toNat + 4) C.th (k3 _ _ hp2.has (by simp)) (fun h0 => ?_) hf2.hasS (by show F2.slots.toNat = _; omega) (Nat.le_refl _) ?_) (by omega) (.slots c)) ?_
  · have : a.slots.length ≠ 0 := fun h => h0 (List.eq_nil_of_length_eq_zero h)
    rw [if_neg (by omega), show (F2.base + 4).toNat = F2.base.toNat + 4 by omega]
  · show F2.slots.toNat ≤ maxLen
    have hml : maxLen = 9223372036854775807 := by decide
    omega
  rintro r19 w T4 C ⟨in1, k4⟩
  refine ok_trd C (stack_spec C.th (k4 _ _ (k3 _ _ hP2 (by simp))) (k4 _ _ (k3 _ _ hb2 (by simp))) hF2 sm hcl hcc) fun w C => ?_
  refine ok_tcall C (clone_spec (l := a.stack) C.th (arr_of (off := F2.base.toNat + 4 + a.slots.length) C.th (k4 _ _ (k3 _ _ hp2.has (by simp))) (fun h0 => ?_) hf2.hasT (by show F2.depth.toNat = _; omega) (by show F2.depth.toNat ≤ F2.room.toNat; omega) ?_) (by omega) (.stack c)) ?_
  · have : a.stack.length ≠ 0 := fun h => h0 (List.eq_nil_of_length_eq_zero h)
    rw [if_neg (by omega), show (F2.base + 4 + F2.slots).toNat = F2.base.toNat + 4 + a.slots.length by omega]
  · show F2.room.toNat ≤ maxLen
    have hml : maxLen = 9223372036854775807 := by decide
    omega
  rintro r21 w T5 C ⟨in2, k5⟩
  have hX5 := k5 _ _ (k4 _ _ hX3)
  have I5 := (I3.grow k4).grow k5
  refine ok_drfP ?_
  refine ok_ctw C { X with method := F2.method, room := F2.room, sender := sd, slots := r19 } hX5 (by decide) rfl rfl fun w C => ?_
  refine ok_drfP ?_
  refine ok_ctw C { X with method := F2.method, room := F2.room, sender := sd, slots := r19, stack := r21 } (put_eq _ _ _) (by decide) rfl rfl fun w C => ?_
  rw [put_put] at C
  have I6 := I5.ctPut (C' := { X with method := F2.method, room := F2.room, sender := sd, slots := r19, stack := r21 }) hcx2 hX5 hl ⟨rfl, rfl, rfl, rfl⟩
  have ki : ∀ b o L, T5 b = some (.ints o L) → put T5 c (.ctx { X with method := F2.method, room := F2.room, sender := sd, slots := r19, stack := r21 }) b = some (.ints o L) := fun b o L h => put_other h hX5 (by simp)
  refine ok_ret.2 ⟨⟨i + 1, ?_, by omega, hlt, _, cx2, C, I6, fun k b h => e2 _ _ (e1 _ _ (hext _ _ h)), ?_⟩, ?_⟩
  · rw [wrapI_in (by have := hP.cnt; have h9 := hP.frames.le; have h8 := hP.frames.max; have hml : maxLen = 9223372036854775807 := by decide
                     omega)]
    simp
  · intro k kd h1 h2 h3
    by_cases e : k = i
    · subst e
      rw [hid, Option.some.injEq] at h3
      subst h3
      exact ⟨c, _, a, { at_ := hcx2, ctx := put_eq _ _ _, act := hact, method := hf2.method, room := hf2.room, slots := in1.mono fun b L h => ki _ _ _ (k5 _ _ h), stack := in2.mono fun b L h => ki _ _ _ h, sender := hsn }⟩
    · obtain ⟨ck, Xk, ak, hk⟩ := hrdy k kd h1 (by omega) h3
      have hck2 := e2 _ _ (e1 _ _ hk.at_)
      have hne : ck ≠ c := by
        rintro rfl
        have h7 := I2.inj _ _ _ hck2 hcx2
        subst h7
        have := I.l1 p k kd hp h3
        simp only at this
        rw [hloc, Option.some.injEq, Prod.mk.injEq] at this
        exact e this.2.symm
      have g2 := k2 _ _ (k1 _ _ hk.ctx (by simp)) (by simp)
      refine ⟨ck, Xk, ak, hk.mono ?_ ?_ fun k b h => e2 _ _ (e1 _ _ h)⟩
      · rw [put_ne _ hne]
        exact k5 _ _ (k4 _ _ (by rw [n3 _ hne]; exact g2))
      · intro b o L h
        exact ki _ _ _ (k5 _ _ (k4 _ _ (k3 _ _ (k2 _ _ (k1 _ _ h (by simp)) (by simp)) (by simp))))
  · rw [wrapI_in (by have := hP.cnt; have h9 := hP.frames.le; have h8 := hP.frames.max; have hml : maxLen = 9223372036854775807 := by decide
                     omega)]
    omega
end Go.Proofs.Ytckfidopkajpaaa

/-
  Frames, from one on, become contexts on their own: divorce.
-/
namespace Go.Proofs.Ytckfidopkajpaaa
set_option linter.unusedVariables false
open Go.Sh Go.RowKit
set_option maxRecDepth 100000
variable {w : World} {T : Hp} {sb : Nat} {S : Sk} {A : St} {G : Gh}
def cutF (fid : Nat → List Nat) (p n : Nat) : Nat → List Nat := fun q => if q = p then (fid p).take n else fid q
def cutL (loc : Nat → Option (Nat × Nat)) (p n : Nat) : Nat → Option (Nat × Nat) := fun id => match loc id with
  | some (q, i) => if q = p ∧ n ≤ i then none else some (q, i)
  | none => none
def Gh.cut (G : Gh) (p n : Nat) : Gh := { G with fid := cutF G.fid p n, loc := cutL G.loc p n }
theorem cutL_some {loc : Nat → Option (Nat × Nat)} {p n id q i : Nat} (h : cutL loc p n id = some (q, i)) : loc id = some (q, i) ∧ ¬ (q = p ∧ n ≤ i) := by
  unfold cutL at h
  split at h
  · rename_i q' i' hl
    split at h
    · cases h
    · rename_i hn
      simp only [Option.some.injEq, Prod.mk.injEq] at h
      obtain ⟨rfl, rfl⟩ := h
      exact ⟨hl, hn⟩
  · cases h
theorem cutL_stay {loc : Nat → Option (Nat × Nat)} {p n id q i : Nat} (h : loc id = some (q, i)) (hn : ¬ (q = p ∧ n ≤ i)) : cutL loc p n id = some (q, i) := by
  unfold cutL; rw [h]; exact if_neg hn
theorem cutL_gone {loc : Nat → Option (Nat × Nat)} {p n id i : Nat} (h : loc id = some (p, i)) (hn : n ≤ i) : cutL loc p n id = none := by
  unfold cutL; rw [h]; exact if_pos ⟨rfl, hn⟩
theorem cutL_none {loc : Nat → Option (Nat × Nat)} {p n id : Nat} (h : loc id = none) : cutL loc p n id = none := by
  unfold cutL; rw [h]
/-- Whose contexts have left the page. -/
def Lft (ids : List Nat) (cx : Nat → Option Nat) (from_ i c : Nat) : Prop := ∃ k id, from_ ≤ k ∧ k < i ∧ ids[k]? = some id ∧ cx id = some c
theorem Inv.cut (I : Inv T sb S A G) {p n : Nat} (hp : p ∈ G.pl) (hn : n ≤ (G.fid p).length) (hr : ∀ k id, n ≤ k → (G.fid p)[k]? = some id → ∃ c X a, Rdy T A G.cx id c X a) {P : Pg} (hP : T p = some (.page P)) {T2 : Hp}
    (k1 : ∀ b o, T b = some o → (∀ C, o ≠ .ctx C) → (∀ P, o ≠ .page P) → T2 b = some o) (k2 : ∀ q, q ≠ p → ∀ Q, T q = some (.page Q) → T2 q = some (.page Q)) (k3 : T2 p = some (.page { P with frames := ⟨P.frames.a, n, P.frames.cap⟩ }))
    (k4 : ∀ c X, T c = some (.ctx X) → (Lft (G.fid p) G.cx n (G.fid p).length c → T2 c = some (.ctx { X with page := none })) ∧ (¬ Lft (G.fid p) G.cx n (G.fid p).length c → T2 c = some (.ctx X))) : Inv T2 sb S A (G.cut p n) := by
  refine { I with stk := k1 _ _ I.stk (by simp) (by simp), pgs := ?_, page := ?_, l1 := ?_, l2 := ?_, ctx := ?_, here := ?_, nmd := ?_ }
  · obtain ⟨h1, h2, h3, b, L', h4, h5, h6⟩ := I.pgs
    exact ⟨h1, h2, h3, b, L', h4, k1 _ _ h5 (by simp) (by simp), h6⟩
  · intro q hq
    obtain ⟨Q, fl, cb, cl, hQ⟩ := I.page q hq
    by_cases e : q = p
    · subst e
      have : Q = P := by have := hQ.page; rw [hP, Option.some.injEq, Ob.page.injEq] at this; exact this.symm
      subst this
      have hf : (G.cut q n).fid q = (G.fid q).take n := if_pos rfl
      have hcn := hQ.cnt
      rw [hf]
      have tk : ∀ {B : Type} {l : List B} {i : Nat} {x : B}, (l.take n)[i]? = some x → i < n ∧ l[i]? = some x := by
        intro B l i x h
        rw [List.getElem?_take] at h
        split at h
        · rename_i hi; exact ⟨hi, h⟩
        · cases h
      refine ⟨_, fl.take n, cb, cl, { page := k3, cells := hQ.cells, has := k1 _ _ hQ.has (by simp) (by simp), cll := hQ.cll, frames := ?_, cnt := by rw [List.length_take, List.length_take]; omega, fr := ?_, first := ?_, next := ?_, below := ?_, link := ?_ }⟩
      · have hle := hQ.frames.le; have hln := hQ.frames.len
        refine ⟨by rw [List.length_take]; show n = _; omega, by show n ≤ Q.frames.cap; omega, hQ.frames.max, hQ.frames.at_.imp (fun h => h) fun ⟨fb, L, h1, h2, h3, h4⟩ => ⟨fb, L, h1, k1 _ _ h2 (by simp) (by simp), h3, ?_⟩⟩
        rw [List.length_take, Nat.min_eq_left (by omega)]
        conv => rhs; rw [← h4]
        rw [List.take_take, Nat.min_eq_left (by omega)]
      · intro i F id h1 h2
        exact hQ.fr i F id (tk h1).2 (tk h2).2
      · intro F h1
        exact hQ.first F (tk h1).2
      · intro i F1 F2 h1 h2
        exact hQ.next i F1 F2 (tk h1).2 (tk h2).2
      · intro id h1
        exact hQ.below id (tk h1).2
      · intro i id jd h1 h2
        exact hQ.link i id jd (tk h1).2 (tk h2).2
    · have hf : (G.cut p n).fid q = G.fid q := if_neg e
      rw [hf]
      exact ⟨Q, fl, cb, cl, hQ.mono (fun P h => k2 q e _ h) (fun b L h => k1 _ _ h (by simp) (by simp)) (fun b L h => k1 _ _ h (by simp) (by simp))⟩
  · intro q i id hq h
    by_cases e : q = p
    · subst e
      have hf : (G.cut q n).fid q = (G.fid q).take n := if_pos rfl
      rw [hf, List.getElem?_take] at h
      split at h
      · rename_i hi
        exact cutL_stay (I.l1 q i id hq h) (by omega)
      · cases h
    · have hf : (G.cut p n).fid q = G.fid q := if_neg e
      rw [hf] at h
      exact cutL_stay (I.l1 q i id hq h) (fun h => e h.1)
  · intro id q i h
    obtain ⟨h1, h2⟩ := cutL_some h
    obtain ⟨h3, h4⟩ := I.l2 id q i h1
    refine ⟨h3, ?_⟩
    by_cases e : q = p
    · subst e
      have hf : (G.cut q n).fid q = (G.fid q).take n := if_pos rfl
      rw [hf, List.getElem?_take_of_lt (by have : ¬ n ≤ i := fun h => h2 ⟨rfl, h⟩; omega)]
      exact h4
    · have hf : (G.cut p n).fid q = G.fid q := if_neg e
      rw [hf]; exact h4
  · intro id c hc
    replace hc : G.cx id = some c := hc
    obtain ⟨X, a, k⟩ := I.ctx id c hc
    obtain ⟨g1, g2⟩ := k4 c X k.ctx
    by_cases hlf : Lft (G.fid p) G.cx n (G.fid p).length c
    · obtain ⟨j, jd, h1, h2, h3, h4⟩ := hlf
      have : jd = id := I.inj _ _ _ h4 hc
      subst this
      have hlo := I.l1 p j jd hp h3
      obtain ⟨c', X', a', hR⟩ := hr j jd h1 h3
      have : c' = c := by have := hR.at_; rw [hc, Option.some.injEq] at this; exact this.symm
      subst this
      have : X' = X := by have := hR.ctx; rw [k.ctx, Option.some.injEq, Ob.ctx.injEq] at this; exact this.symm
      subst this
      have : a' = a := by have := hR.act; rw [k.act, Option.some.injEq] at this; exact this.symm
      subst this
      have hgone : (G.cut p n).loc jd = none := cutL_gone hlo h1
      refine ⟨_, a', { ctx := g1 ⟨j, jd, h1, h2, h3, h4⟩, act := k.act, dead := k.dead, number := k.number, framed := fun q i h => (by rw [hgone] at h; cases h), lone := fun ha _ => ?_ }⟩
      obtain ⟨_, _, _, _, _, _, F, a2, _, _, _, _, _, _, hF, _⟩ := I.pageAt hp h3
      have : a2 = a' := by have := hF.act; rw [k.act, Option.some.injEq] at this; exact this.symm
      subst this
      have f1 := hF.fin; have f2 := hF.base; have f3 := hF.slots; have f4 := hF.room; have f5 := hF.fits
      unfold Fr.fin at f1
      refine ⟨rfl, hR.method, hR.room, f5, by omega, hR.slots.mono fun b L h => k1 _ _ h (by simp) (by simp), hR.stack.mono fun b L h => k1 _ _ h (by simp) (by simp), hR.sender⟩
    · have hst : (G.cut p n).loc id = G.loc id := by
        cases h : G.loc id with
        | none => exact cutL_none h
        | some qi =>
          obtain ⟨q, i⟩ := qi
          refine cutL_stay h ?_
          rintro ⟨rfl, hi⟩
          obtain ⟨_, h4⟩ := I.l2 id q i h
          refine hlf ⟨i, id, hi, ?_, h4, hc⟩
          rcases Nat.lt_or_ge i (G.fid q).length with h' | h'
          · exact h'
          · rw [List.getElem?_eq_none h'] at h4; cases h4
      refine ⟨X, a, { ctx := g2 hlf, act := k.act, dead := k.dead, number := k.number, framed := fun q i h => k.framed q i (hst ▸ h), lone := fun ha h0 => ?_ }⟩
      obtain ⟨g1, g2, g3, g4, g5, g6, g7, g8⟩ := k.lone ha (by rw [← hst]; exact h0)
      exact ⟨g1, g2, g3, g4, g5, g6.mono fun b L h => k1 _ _ h (by simp) (by simp), g7.mono fun b L h => k1 _ _ h (by simp) (by simp), g8⟩
  · intro id h
    by_cases hcx : G.cx id = none
    · left
      rcases I.here id h with h1 | h1
      · cases hl : G.loc id with
        | none => exact absurd hl h1
        | some qi =>
          obtain ⟨q, i⟩ := qi
          have : (G.cut p n).loc id = some (q, i) := by
            refine cutL_stay hl ?_
            rintro ⟨rfl, hi⟩
            obtain ⟨c, X, a, hR⟩ := hr i id hi (I.l2 id q i hl).2
            have := hR.at_
            rw [hcx] at this; cases this
          rw [this]; simp
      · exact absurd hcx h1
    · exact .inr hcx
  · obtain ⟨h1, h2, h3, h4⟩ := I.nmd
    exact ⟨h1, h2, h3, h4.imp (fun h => h) fun ⟨b, L', k1', k2', k3', k4'⟩ => ⟨b, L', k1', k1 _ _ k2' (by simp) (by simp), k3', k4'⟩⟩
end Go.Proofs.Ytckfidopkajpaaa

/-
  divorce.
-/
namespace Go.Proofs.Ytckfidopkajpaaa
set_option linter.unusedVariables false
open Go.Sh Go.RowKit
set_option maxRecDepth 100000
variable {w : World} {T : Hp} {sb : Nat} {S : Sk} {A : St} {G : Gh}
theorem lft_succ {ids : List Nat} {cx : Nat → Option Nat} {n i id c c' : Nat} (hn : n ≤ i) (hid : ids[i]? = some id) (hc : cx id = some c) : Lft ids cx n (i + 1) c' ↔ Lft ids cx n i c' ∨ c' = c := by
  constructor
  · rintro ⟨k, kd, h1, h2, h3, h4⟩
    by_cases e : k = i
    · subst e
      rw [hid, Option.some.injEq] at h3
      subst h3
      rw [hc, Option.some.injEq] at h4
      exact .inr h4.symm
    · exact .inl ⟨k, kd, h1, by omega, h3, h4⟩
  · rintro (⟨k, kd, h1, h2, h3, h4⟩ | rfl)
    · exact ⟨k, kd, h1, by omega, h3, h4⟩
    · exact ⟨i, id, hn, by omega, hid, hc⟩
theorem divorce_spec (h : Th en w T) (I : Inv T sb S A G) {p n : Nat} (hp : p ∈ G.pl) (hn : n ≤ (G.fid p).length) :
    Sp (f71_frames_page_divorce (pt (some p)) (n : Int)) w T fun _ _ T' => ∃ cx', (∀ k b, G.cx k = some b → cx' k = some b) ∧ Inv T' sb S A (({ G with cx := cx' } : Gh).cut p n) := by
  unfold f71_frames_page_divorce
  have C := Tr.refl h
  refine divorce1 hp C I hn fun w1 T1 cx C I hext hrdy => ?_
  refine ok_bnd.2 ?_
  refine ok_mono (Q := fun _ w' => ∃ T', Tr en w T w' T' ∧ ∃ cx', (∀ k b, G.cx k = some b → cx' k = some b) ∧ Inv T' sb S A (({ G with cx := cx' } : Gh).cut p n)) ?_ (fun _ _ h => ok_ret.2 h)
  obtain ⟨P, fl, cb, cl, hP⟩ := I.page p hp
  have hlen : P.frames.len = (G.fid p).length := hP.frames.len.trans hP.cnt
  have hle := hP.frames.le
  have hmx := hP.frames.max
  have hml : maxLen = 9223372036854775807 := by decide
  refine ok_loop (fun (q : Int) w' => ∃ i : Nat, q = i ∧ n ≤ i ∧ i ≤ (G.fid p).length ∧ ∃ T', Tr en w T w' T' ∧ (∀ b o, T1 b = some o → (∀ C, o ≠ .ctx C) → T' b = some o) ∧ (∀ c X, T1 c = some (.ctx X) → (Lft (G.fid p) cx n i c → T' c = some (.ctx { X with page := none })) ∧ (¬ Lft (G.fid p) cx n i c → T' c = some (.ctx X))))
    (fun q _ => (((G.fid p).length : Int) - q).toNat) ?_ _ _ ⟨n, rfl, Nat.le_refl _, hn, T1, C, fun _ _ h _ => h, fun c X h => ⟨fun ⟨k, _, h1, h2, _⟩ => by omega, fun _ => h⟩⟩
  clear C
  rintro q w ⟨i, rfl, hi1, hi2, T2, C, k1, k2⟩
  refine ok_drfP ?_
  refine ok_tld C (k1 _ _ hP.page (by simp)) (x := P.frames) rfl ?_
  by_cases hlt : i < (G.fid p).length
  · refine ok_true (by simp only [decide_eq_true_eq]; omega) ?_
    obtain ⟨id, hid⟩ : ∃ id, (G.fid p)[i]? = some id := ⟨_, List.getElem?_eq_getElem hlt⟩
    obtain ⟨fb, L, ha, _⟩ := hP.frames.blk (by have := hP.cnt; simp only at this; omega)
    obtain ⟨c, X, a, hR⟩ := hrdy i id hi1 hid
    obtain ⟨fl2, cb2, cl2, L2, F2, hp2, hb2, hF2, hf2⟩ := I.pageAt2 hp hid hP.page ha hR.act
    have hctx : F2.ctx = some c := hf2.ctx.trans hR.at_
    have hloc : G.loc id = some (p, i) := I.l1 p i id hp hid
    have hnl : ¬ Lft (G.fid p) cx n i c := by
      rintro ⟨k, kd, h1, h2, h3, h4⟩
      have h7 := I.inj _ _ _ h4 hR.at_
      subst h7
      have := I.l1 p k kd hp h3
      simp only at this
      rw [hloc, Option.some.injEq, Prod.mk.injEq] at this
      omega
    have hTc := (k2 c X hR.ctx).2 hnl
    refine ok_drfP ?_
    refine ok_tld C (k1 _ _ hP.page (by simp)) (x := P.frames) rfl ?_
    refine ok_ixN ha (by omega) (by omega) ?_
    rw [Int.toNat_natCast]
    refine ok_tld C (k1 _ _ hb2 (by simp)) (x := pt F2.ctx) (rd_fr hF2 (by decide) rfl) ?_
    rw [hctx]
    refine ok_drfP ?_
    refine ok_ctw C { X with page := none } hTc (by decide) rfl rfl fun w C => ?_
    refine ok_ret.2 ⟨⟨i + 1, by rw [wrapI_in (by omega)]; simp, by omega, hlt, _, C, fun b o h hne => put_other (k1 b o h hne) hTc (hne X), fun c' X' hX' => ?_⟩, by rw [wrapI_in (by omega)]; omega⟩
    rw [lft_succ hi1 hid hR.at_]
    by_cases e : c' = c
    · subst e
      have : X' = X := by have := hR.ctx; rw [hX', Option.some.injEq, Ob.ctx.injEq] at this; exact this
      subst this
      exact ⟨fun _ => put_eq _ _ _, fun h => absurd (.inr rfl) h⟩
    · rw [put_ne _ e]
      exact ⟨fun h => (k2 c' X' hX').1 (h.resolve_right e), fun h => (k2 c' X' hX').2 fun h' => h (.inl h')⟩
  · have hie : i = (G.fid p).length := by omega
    subst hie
    refine ok_false (by simp only [decide_eq_false_iff_not]; omega) ?_
    refine ok_bnd.2 ?_
    refine ok_drfP ?_
    refine ok_tld C (k1 _ _ hP.page (by simp)) (x := P.frames) rfl ?_
    refine ok_slcP (by omega) ?_
    refine ok_drfP ?_
    refine ok_twr C (.page { P with frames := ⟨P.frames.a, n, P.frames.cap⟩ }) (k1 _ _ hP.page (by simp)) (by simp [en, Pg.en]) rfl rfl fun w C => ?_
    refine ok_ret.2 (ok_ret.2 ⟨_, C, cx, hext, ?_⟩)
    have hpp := k1 _ _ hP.page (by simp)
    refine Inv.cut I hp hn hrdy hP.page (fun b o h h1 h2 => put_other (k1 b o h h1) hpp (h2 P)) (fun q e Q h => ?_) (put_eq _ _ _) fun c X hX => ?_
    · rw [put_ne _ e]; exact k1 _ _ h (by simp)
    · obtain ⟨g1, g2⟩ := k2 c X hX
      exact ⟨fun h => put_other (g1 h) hpp (by simp), fun h => put_other (g2 h) hpp (by simp)⟩
end Go.Proofs.Ytckfidopkajpaaa
