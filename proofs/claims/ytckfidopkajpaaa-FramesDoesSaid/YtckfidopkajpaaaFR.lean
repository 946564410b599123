/-
  Parts of the proof: FP, FQ, FR. It states what the functions do; no further condition.
-/
import Derived.Test.YtckfidopkajpaaaFO
set_option linter.unusedVariables false
set_option linter.unusedSimpArgs false
/-
  A context on its own is laid into an empty page.
-/
namespace Go.Proofs.Ytckfidopkajpaaa
set_option linter.unusedVariables false
open Go.Sh Go.RowKit
set_option maxRecDepth 100000
variable {w : World} {T : Hp} {sb : Nat} {S : Sk} {A : St} {G : Gh}
def layF (fid : Nat → List Nat) (p id : Nat) : Nat → List Nat := fun q => if q = p then [id] else fid q
def layL (loc : Nat → Option (Nat × Nat)) (p id : Nat) : Nat → Option (Nat × Nat) := fun k => if k = id then some (p, 0) else loc k
def Gh.lay (G : Gh) (p id : Nat) : Gh := { G with fid := layF G.fid p id, loc := layL G.loc p id }
theorem Inv.relay (I : Inv T sb S A G) {p id c cb : Nat} {P : Pg} {C : Ct} {a : Ac} {s' : Sl} {cl cl' : List Int} {F : Fr} {T2 : Hp} (hp : p ∈ G.pl) (hf : G.fid p = []) (hcx : G.cx id = some c) (hl : G.loc id = none) (hact : A.acts[id]? = some a) (hal : a.alive = true)
    (hC : T c = some (.ctx C)) (hP : T p = some (.page P)) (hcc : P.cells = ⟨some ⟨cb, 0, none⟩, A.cells, A.cells⟩) (hcb : T cb = some (.ints (.cells p) cl)) (hcl : cl'.length = A.cells)
    (k : ∀ b o, T b = some o → b ≠ p → b ≠ cb → b ≠ c → (∀ L, o ≠ .frs p L) → T2 b = some o) (k1 : T2 p = some (.page { P with below := C.sender, frames := s' })) (k2 : Fs T2 p s' [F]) (hF : F = ⟨C.method, 0, a.slots.length, a.stack.length, a.room, some c⟩)
    (k3 : T2 cb = some (.ints (.cells p) cl')) (h1 : (cl'.drop 4).take a.slots.length = a.slots) (h2 : (cl'.drop (4 + a.slots.length)).take a.stack.length = a.stack) (k4 : T2 c = some (.ctx { C with page := some p, at_ := 0 })) : Inv T2 sb S A (G.lay p id) := by
  obtain ⟨C', a', kc⟩ := I.ctx id c hcx
  have : C' = C := by have := kc.ctx; rw [hC, Option.some.injEq, Ob.ctx.injEq] at this; exact this.symm
  subst this
  have : a' = a := by have := kc.act; rw [hact, Option.some.injEq] at this; exact this.symm
  subst this
  obtain ⟨g1, g2, g3, g4, g5, g6, g7, g8⟩ := kc.lone hal hl
  -- what is neither page, cells nor context stays
  have keep : ∀ b o, T b = some o → (∀ P, o ≠ .page P) → (∀ L, o ≠ .ints (.cells p) L) → (∀ C, o ≠ .ctx C) → (∀ L, o ≠ .frs p L) → T2 b = some o := fun b o h n1 n2 n3 n4 => k b o h (by rintro rfl; rw [hP, Option.some.injEq] at h; exact n1 P h.symm) (by rintro rfl; rw [hcb, Option.some.injEq] at h; exact n2 cl h.symm) (by rintro rfl; rw [hC, Option.some.injEq] at h; exact n3 C' h.symm) n4
  refine { I with stk := keep _ _ I.stk (by simp) (by simp) (by simp) (by simp), pgs := ?_, page := ?_, l1 := ?_, l2 := ?_, ctx := ?_, here := ?_, nmd := ?_ }
  · obtain ⟨h1, h2, h3, b, L', h4, h5, h6⟩ := I.pgs
    exact ⟨h1, h2, h3, b, L', h4, keep _ _ h5 (by simp) (by simp) (by simp) (by simp), h6⟩
  · intro q hq
    by_cases e : q = p
    · subst e
      have hfi : (G.lay q id).fid q = [id] := if_pos rfl
      rw [hfi]
      refine ⟨_, [F], cb, cl', { page := k1, cells := hcc, has := k3, cll := hcl, frames := k2, cnt := rfl, fr := ?_, first := ?_, next := ?_, below := ?_, link := ?_ }⟩
      · intro i F' id' hF' hid'
        cases i with
        | zero =>
          simp only [List.getElem?_cons_zero, Option.some.injEq] at hF' hid'
          subst hF'; subst hid'; subst hF
          exact ⟨a', { act := hact, alive := hal, base := Int.le_refl _, method := g2, slots := rfl, depth := rfl, room := rfl, fits := g4, ctx := hcx.symm, fin := by unfold Fr.fin; simp only; omega, hasS := by simpa using h1, hasT := by simpa using h2 }⟩
        | succ i => simp at hF'
      · intro F' hF'
        simp only [List.getElem?_cons_zero, Option.some.injEq] at hF'
        subst hF'; subst hF; rfl
      · intro i F1 F2 _ hF2
        simp at hF2
      · intro id' hid'
        simp only [List.getElem?_cons_zero, Option.some.injEq] at hid'
        subst hid'
        exact g8
      · intro i i1 i2 _ hi2
        simp at hi2
    · have hfi : (G.lay p id).fid q = G.fid q := if_neg e
      rw [hfi]
      obtain ⟨Q, fl, cb', cl2, hQ⟩ := I.page q hq
      refine ⟨Q, fl, cb', cl2, hQ.mono (fun P' h => k _ _ h e (by rintro rfl; rw [hcb] at h; cases h) (by rintro rfl; rw [hC] at h; cases h) (by simp)) (fun b L h => keep _ _ h (by simp) (by simp [e]) (by simp) (by simp)) (fun b L h => keep _ _ h (by simp) (by simp) (by simp) (by simp [e]))⟩
  · intro q i jd hq h
    by_cases e : q = p
    · subst e
      have hfi : (G.lay q id).fid q = [id] := if_pos rfl
      rw [hfi] at h
      cases i with
      | zero =>
        simp only [List.getElem?_cons_zero, Option.some.injEq] at h
        subst h
        exact if_pos rfl
      | succ i => simp at h
    · have hfi : (G.lay p id).fid q = G.fid q := if_neg e
      rw [hfi] at h
      have hq2 := I.l1 q i jd hq h
      have : jd ≠ id := by rintro rfl; rw [hl] at hq2; cases hq2
      exact (if_neg this).trans hq2
  · intro jd q i h
    by_cases e : jd = id
    · subst e
      have h' : some (p, 0) = some (q, i) := (if_pos rfl).symm.trans h
      simp only [Option.some.injEq, Prod.mk.injEq] at h'
      obtain ⟨rfl, rfl⟩ := h'
      exact ⟨hp, by rw [show (G.lay p jd).fid p = [jd] from if_pos rfl]; rfl⟩
    · have h' : G.loc jd = some (q, i) := (if_neg e).symm.trans h
      obtain ⟨g1, g2⟩ := I.l2 jd q i h'
      have : q ≠ p := by rintro rfl; rw [hf] at g2; cases g2
      exact ⟨g1, by rw [show (G.lay p id).fid q = G.fid q from if_neg this]; exact g2⟩
  · intro jd c' hc'
    replace hc' : G.cx jd = some c' := hc'
    obtain ⟨D, b, kd⟩ := I.ctx jd c' hc'
    by_cases e : jd = id
    · subst e
      have : c' = c := by rw [hcx, Option.some.injEq] at hc'; exact hc'.symm
      subst this
      have : D = C' := by have := kd.ctx; rw [hC, Option.some.injEq, Ob.ctx.injEq] at this; exact this.symm
      subst this
      have hlo : (G.lay p jd).loc jd = some (p, 0) := if_pos rfl
      refine ⟨_, b, { ctx := k4, act := kd.act, dead := kd.dead, number := kd.number, framed := fun q i h => ?_, lone := fun _ h => (by rw [hlo] at h; cases h) }⟩
      rw [hlo, Option.some.injEq, Prod.mk.injEq] at h
      obtain ⟨rfl, rfl⟩ := h
      exact ⟨rfl, rfl⟩
    · have hne : c' ≠ c := by rintro rfl; exact e (I.inj _ _ _ hc' hcx)
      have hlo : (G.lay p id).loc jd = G.loc jd := if_neg e
      refine ⟨D, b, { ctx := k _ _ kd.ctx (by rintro rfl; have := kd.ctx; rw [hP] at this; cases this) (by rintro rfl; have := kd.ctx; rw [hcb] at this; cases this) hne (by simp), act := kd.act, dead := kd.dead, number := kd.number, framed := fun q i h => kd.framed q i (hlo ▸ h), lone := fun h1 h2 => ?_ }⟩
      obtain ⟨g1, g2, g3, g4, g5, g6, g7, g8⟩ := kd.lone h1 (hlo ▸ h2)
      exact ⟨g1, g2, g3, g4, g5, g6.mono fun b L h => keep _ _ h (by simp) (by simp) (by simp) (by simp), g7.mono fun b L h => keep _ _ h (by simp) (by simp) (by simp) (by simp), g8⟩
  · intro jd h
    by_cases e : jd = id
    · subst e
      left
      rw [show (G.lay p jd).loc jd = some (p, 0) from if_pos rfl]; simp
    · rcases I.here jd h with h1 | h1
      · left
        rw [show (G.lay p id).loc jd = G.loc jd from if_neg e]; exact h1
      · exact .inr h1
  · obtain ⟨h1, h2, h3, h4⟩ := I.nmd
    exact ⟨h1, h2, h3, h4.imp (fun h => h) fun ⟨b, L', k1', k2', k3', k4'⟩ => ⟨b, L', k1', keep _ _ k2' (by simp) (by simp) (by simp) (by simp), k3', k4'⟩⟩
end Go.Proofs.Ytckfidopkajpaaa

/-
  activate.
-/
namespace Go.Proofs.Ytckfidopkajpaaa
set_option linter.unusedVariables false
open Go.Sh Go.RowKit
set_option maxRecDepth 100000
variable {w : World} {T : Hp} {sb : Nat} {S : Sk} {A : St} {G : Gh}
theorem activate_none (h : Th en w T) (I : Inv T sb S A G) : Sp (f36_frames_Stack_activate (pt (some sb)) (pt none)) w T fun _ _ T' => ∃ S', Inv T' sb S' A G ∧ Acv S' A G none := by
  unfold f36_frames_Stack_activate
  have C := Tr.refl h
  refine ok_drfP ?_
  refine ok_twr C (.stk { S with top := none }) I.stk (by simp [en, Sk.en]) rfl rfl fun w1 C => ?_
  have I1 := I.stkPut { S with top := none } ⟨rfl, rfl, rfl, rfl, rfl⟩
  refine ok_drfP ?_
  refine ok_twr C (.stk { S with top := none, alone := none }) I1.stk (by simp [en, Sk.en]) rfl rfl fun w2 C => ?_
  have I2 := I1.stkPut { S with top := none, alone := none } ⟨rfl, rfl, rfl, rfl, rfl⟩
  exact ok_bnd.2 (ok_true rfl (ok_ret.2 (ok_ret.2 ⟨_, C, _, I2, rfl, rfl⟩)))
theorem activate_some (h : Th en w T) (I : Inv T sb S A G) {c id : Nat} (hcx : G.cx id = some c) (hal : A.alive id = true) : Sp (f36_frames_Stack_activate (pt (some sb)) (pt (some c))) w T fun _ _ T' => ∃ S' G' p, G'.pl = G.pl ∧ (∀ k b, G.cx k = some b → G'.cx k = some b) ∧ Inv T' sb S' A G' ∧ p ∈ G.pl ∧ S'.top = some p ∧ S'.alone = none ∧ (G'.fid p).getLast? = some id := by
  unfold f36_frames_Stack_activate
  have C := Tr.refl h
  have hml : maxLen = 9223372036854775807 := by decide
  refine ok_drfP ?_
  refine ok_twr C (.stk { S with top := none }) I.stk (by simp [en, Sk.en]) rfl rfl fun w1 C => ?_
  have I1 := I.stkPut { S with top := none } ⟨rfl, rfl, rfl, rfl, rfl⟩
  refine ok_drfP ?_
  refine ok_twr C (.stk { S with top := none, alone := none }) I1.stk (by simp [en, Sk.en]) rfl rfl fun w2 C => ?_
  have I2 := I1.stkPut { S with top := none, alone := none } ⟨rfl, rfl, rfl, rfl, rfl⟩
  generalize put (put T sb (.stk { S with top := none })) sb (.stk { S with top := none, alone := none }) = T2 at C I2
  have hA : Acv { S with top := none, alone := none } A G none := ⟨rfl, rfl⟩
  generalize ({ S with top := none, alone := none } : Sk) = S2 at I2 hA
  clear I1
  refine ok_bnd.2 (ok_false rfl ?_)
  obtain ⟨X, a, kc⟩ := I2.ctx id c hcx
  refine ok_drfP ?_
  refine ok_tld C kc.ctx (x := pt X.page) rfl ?_
  cases hl : G.loc id with
  | some pi =>
    obtain ⟨p, i⟩ := pi
    obtain ⟨e1, e2⟩ := kc.framed p i hl
    obtain ⟨hp, hid⟩ := I2.l2 id p i hl
    have hi : i < (G.fid p).length := by
      rcases Nat.lt_or_ge i (G.fid p).length with h | h
      · exact h
      · rw [List.getElem?_eq_none h] at hid; cases hid
    obtain ⟨P, fl, cb, cl, hP⟩ := I2.page p hp
    have q1 := hP.cnt; have q2 := hP.frames.len; have q3 := hP.frames.le; have q4 := hP.frames.max
    rw [e1]
    refine ok_bnd.2 (ok_true rfl ?_)
    simp only [bnd_as, bnd_ret]
    refine ok_tord C fun o w3 C => ?_
    refine ok_drfP ?_
    refine ok_tld C kc.ctx (x := pt (some p)) (by rw [← e1]; rfl) ?_
    refine ok_drfP ?_
    refine ok_tld C kc.ctx (x := (i : Int)) (by rw [← e2]; rfl) ?_
    have ew : IntKind.wrap .i64 ((i : Int) + 1) = ((i + 1 : Nat) : Int) := by rw [wrapI_in (by omega)]; simp
    rw [ew]
    refine ok_tcall C (divorce_spec C.th I2 hp hi) ?_
    rintro _ w4 T3 C ⟨cx3, ext, I3⟩
    have hc3 : cx3 id = some c := ext _ _ hcx
    obtain ⟨X3, a3, k3⟩ := I3.ctx id c hc3
    obtain ⟨f1, f2⟩ := k3.framed p i (cutL_stay hl (by omega))
    refine ok_tchk C k3.ctx (by rw [← f2]; rfl) ?_
    refine ok_drfP ?_
    refine ok_tld C k3.ctx (x := pt (some p)) (by rw [← f1]; rfl) ?_
    refine ok_tcall C (use_spec C.th I3 hp) ?_
    rintro _ w5 T4 C ⟨S4, I4, t1, t2⟩
    refine ok_ret.2 (ok_ret.2 (ok_ret.2 ⟨T4, C, S4, (({ G with cx := cx3 } : Gh).cut p (i + 1)), p, rfl, ext, I4, hp, t1, t2, ?_⟩))
    show (cutF G.fid p (i + 1) p).getLast? = _
    unfold cutF
    rw [if_pos rfl, List.getLast?_eq_getElem?, List.length_take, Nat.min_eq_left (by omega), Nat.add_sub_cancel, List.getElem?_take_of_lt (by omega)]
    exact hid
  | none =>
    obtain ⟨a0, ha0, hal0⟩ := alive_lt hal
    have haa : a0 = a := by have := kc.act; rw [ha0, Option.some.injEq] at this; exact this
    subst haa
    obtain ⟨g1, _⟩ := kc.lone hal0 hl
    rw [g1]
    refine ok_bnd.2 (ok_false rfl ?_)
    simp only [bnd_as, bnd_ret]
    refine ok_tcall C (free_spec C.th I2 hA) ?_
    rintro _ w3 T3 C ⟨p, S3, G3, hp, rfl, hpl, hfid, ext, hloc, I3, A3⟩
    have hp3 : p ∈ G3.pl := by rw [hpl]; exact hp
    have hc3 := ext _ _ hcx
    have hl3 := hloc _ hl
    obtain ⟨X3, a3, k3⟩ := I3.ctx id c hc3
    have haa : a3 = a0 := by have := k3.act; rw [ha0, Option.some.injEq] at this; exact this.symm
    subst haa
    obtain ⟨b1, b2, b3, b4, b5, b6, b7, b8⟩ := k3.lone hal0 hl3
    refine ok_drfP ?_
    refine ok_tld C k3.ctx (x := pt X3.sender) rfl ?_
    obtain ⟨P, fl, cb, cl, hP⟩ := I3.page p hp3
    have hfl : fl = [] := List.eq_nil_of_length_eq_zero (by rw [hP.cnt, hfid]; rfl)
    subst hfl
    refine ok_drfP ?_
    refine ok_twr C (.page { P with below := X3.sender }) hP.page (by simp [en, Pg.en]) rfl rfl fun w4 C => ?_
    have kp : ∀ b o, T3 b = some o → (∀ P, o ≠ .page P) → put T3 p (.page { P with below := X3.sender }) b = some o := fun b o h hn => put_other h hP.page (hn P)
    have np : ∀ b, b ≠ p → put T3 p (.page { P with below := X3.sender }) b = T3 b := fun b h => put_ne _ h
    have hp4 := put_eq T3 p (.page { P with below := X3.sender })
    generalize put T3 p (.page { P with below := X3.sender }) = T4 at C kp np hp4
    have hc4 := kp _ _ k3.ctx (by simp)
    have hpc : p ≠ c := by rintro rfl; have := hP.page; rw [k3.ctx] at this; cases this
    have hcbc : cb ≠ c := by rintro rfl; have := hP.has; rw [k3.ctx] at this; cases this
    refine ok_tord C fun o w5 C => ?_
    refine ok_drfP ?_
    refine ok_tld C hc4 (x := X3.method) rfl ?_
    refine ok_drfP ?_
    refine ok_tld C hc4 (x := X3.slots) rfl ?_
    refine ok_drfP ?_
    refine ok_tld C hc4 (x := X3.stack) rfl ?_
    refine ok_drfP ?_
    refine ok_tld C hc4 (x := X3.room) rfl ?_
    rw [b3]
    have src : ∀ {o : Ow} {s : Sl} {l : List Int}, (∀ q, o ≠ .cells q) → In T3 o s l → ∀ w' T', Tr en w5 T4 w' T' → Ke T4 T' p cb → Arr w'.heap.size w' s (nums .i64 l) := by
      intro o s l ho hin w' T' C' hk
      rcases hin.at_ with h0 | ⟨b, L, h1, h2, h3⟩
      · subst h0
        exact ⟨hin.len, hin.le, hin.max, .inl rfl⟩
      · refine arr_of (off := 0) C'.th (hk _ _ (kp _ _ h2 (by simp)) (by rintro rfl; have := hP.page; rw [h2] at this; cases this) (by rintro rfl; have := hP.has; rw [h2, Option.some.injEq, Ob.ints.injEq] at this; exact ho _ this.1) (by simp)) (fun _ => h1) (by rw [List.drop_zero]; exact h3) hin.len hin.le hin.max
    refine ok_tcall C (lay_spec (n := A.cells) (base := 0) (room := a3.room) (c := some c) C.th hp4 hP.cells (kp _ _ hP.has (by simp)) hP.cll I3.cmax (hP.frames.mono fun b L h => kp _ _ h (by simp)) (Nat.zero_le _) (by simp) rfl (by omega) b4 b6.len b7.len (src (by simp) b6) (src (by simp) b7)) ?_
    rintro _ w6 T5 C ⟨s', cl', l1, l2, l3, l4, _, l6, l7, l8⟩
    have hc5 := l8 _ _ hc4 (fun h => hpc h.symm) (fun h => hcbc h.symm) (by simp)
    refine ok_drfP ?_
    refine ok_ctw C { X3 with page := some p } hc5 (by decide) rfl rfl fun w7 C => ?_
    refine ok_drfP ?_
    refine ok_ctw C { X3 with page := some p, at_ := 0 } (put_eq _ _ _) (by decide) rfl rfl fun w8 C => ?_
    rw [put_put] at C
    have I5 := I3.relay (T2 := put T5 c (.ctx { X3 with page := some p, at_ := 0 })) hp3 hfid hc3 hl3 ha0 hal0 k3.ctx hP.page hP.cells hP.has l4
      (fun b o h n1 n2 n3 n4 => by rw [put_ne _ n3]; exact l8 _ _ (by rw [np _ n1]; exact h) n1 n2 n4)
      (by rw [put_ne _ hpc]; exact l1) (l2.mono fun b L h => put_other h hc5 (by simp)) rfl (by rw [put_ne _ hcbc]; exact l3) (by simpa using l6) (by simpa using l7) (put_eq _ _ _)
    refine ok_tcall C (use_spec C.th I5 hp3) ?_
    rintro _ w9 T6 C ⟨S6, I6, t1, t2⟩
    refine ok_ret.2 (ok_ret.2 (ok_ret.2 ⟨T6, C, S6, G3.lay p id, p, hpl, ext, I6, hp, t1, t2, ?_⟩))
    show (layF G3.fid p id p).getLast? = _
    unfold layF
    rw [if_pos rfl]; rfl
end Go.Proofs.Ytckfidopkajpaaa

/-
  active: who is active, as a frame.
-/
namespace Go.Proofs.Ytckfidopkajpaaa
set_option linter.unusedVariables false
open Go.Sh Go.RowKit
set_option maxRecDepth 100000
variable {w : World} {T : Hp} {sb : Nat} {S : Sk} {A : St} {G : Gh}
theorem active_none (h : Th en w T) (I : Inv T sb S A G) (hA : Acv S A G none) : Sp (f28_frames_Stack_active (pt (some sb))) w T fun r _ T' => T' = T ∧ r = (none, none) := by
  unfold f28_frames_Stack_active
  have C := Tr.refl h
  obtain ⟨h1, h2⟩ : S.top = none ∧ S.alone = none := hA
  refine ok_drfP ?_
  refine ok_tld C I.stk (x := pt S.alone) rfl ?_
  rw [h2]
  refine ok_bnd.2 (ok_false rfl (ok_ret.2 ?_))
  refine ok_drfP ?_
  refine ok_tld C I.stk (x := pt S.top) rfl ?_
  rw [h1]
  exact ok_true rfl (ok_ret.2 ⟨T, C, rfl, rfl⟩)
theorem active_some (h : Th en w T) (I : Inv T sb S A G) {id : Nat} (hA : Acv S A G (some id)) : Sp (f28_frames_Stack_active (pt (some sb))) w T fun r _ T' => ∃ S' G' p P fb, G'.pl = G.pl ∧ (∀ k b, G.cx k = some b → G'.cx k = some b) ∧ Inv T' sb S' A G' ∧ p ∈ G'.pl ∧ S'.top = some p ∧ S'.alone = none ∧ (G'.fid p).getLast? = some id ∧ T' p = some (.page P) ∧ P.frames.a = some ⟨fb, 0, none⟩ ∧ r = (pt (some p), some ⟨fb, 6 * ((G'.fid p).length - 1), none⟩) := by
  unfold f28_frames_Stack_active
  have C := Tr.refl h
  refine ok_drfP ?_
  refine ok_tld C I.stk (x := pt S.alone) rfl ?_
  refine ok_bnd.2 (ok_mono (Q := fun _ w' => ∃ T' S' G' p, Tr en w T w' T' ∧ G'.pl = G.pl ∧ (∀ k b, G.cx k = some b → G'.cx k = some b) ∧ Inv T' sb S' A G' ∧ p ∈ G.pl ∧ S'.top = some p ∧ S'.alone = none ∧ (G'.fid p).getLast? = some id) ?_ ?_)
  · obtain ⟨hal, h1 | h1⟩ := hA
    · obtain ⟨p, h1, h2, h3, h4⟩ := h1
      rw [h3]
      exact ok_false rfl (ok_ret.2 ⟨T, S, G, p, C, rfl, fun _ _ h => h, I, h2, h1, h3, h4⟩)
    · obtain ⟨h1, c, h2, h3, h4⟩ := h1
      rw [h2]
      refine ok_true rfl ?_
      refine ok_drfP ?_
      refine ok_tld C I.stk (x := pt (some c)) (by rw [← h2]; rfl) ?_
      refine ok_tcall C (activate_some C.th I h3 hal) ?_
      rintro _ w1 T1 C ⟨S1, G1, p, k1, k2, k3, k4, k5, k6, k7⟩
      exact ok_ret.2 ⟨T1, S1, G1, p, C, k1, k2, k3, k4, k5, k6, k7⟩
  rintro _ w1 ⟨T1, S1, G1, p, C, k1, k2, k3, k4, k5, k6, k7⟩
  have hp : p ∈ G1.pl := by rw [k1]; exact k4
  refine ok_drfP ?_
  refine ok_tld C k3.stk (x := pt (some p)) (by rw [← k5]; rfl) ?_
  refine ok_false rfl ?_
  simp only [bnd_as, bnd_ret]
  refine ok_tord C fun o w2 C => ?_
  refine ok_drfP ?_
  refine ok_tld C k3.stk (x := pt (some p)) (by rw [← k5]; rfl) ?_
  refine ok_drfP ?_
  refine ok_tld C k3.stk (x := pt (some p)) (by rw [← k5]; rfl) ?_
  obtain ⟨P, fl, cb, cl, hP⟩ := k3.page p hp
  obtain ⟨hpos, _⟩ := fid_last k7
  have hcnt := hP.cnt
  obtain ⟨fb, L, ha, _⟩ := hP.frames.blk (by omega)
  refine ok_trd C (last_spec C.th hP.page hP.frames (by omega) ha) fun w3 C => ?_
  refine ok_tchk C k3.stk (by rw [← k5]; rfl) ?_
  exact ok_ret.2 ⟨T1, C, S1, G1, p, P, fb, k1, k2, k3, hp, k5, k6, k7, hP.page, ha, by rw [hcnt]⟩
end Go.Proofs.Ytckfidopkajpaaa
