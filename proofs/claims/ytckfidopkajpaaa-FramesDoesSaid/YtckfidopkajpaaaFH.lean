/-
  Parts of the proof: FE, FF, FG, FH. It states what the functions do; no further condition.
-/
import Derived.Test.YtckfidopkajpaaaFD
set_option linter.unusedVariables false
set_option linter.unusedSimpArgs false
/-
  A frame is given its context: nothing is seen of it.
-/
namespace Go.Proofs.Ytckfidopkajpaaa
set_option linter.unusedVariables false
open Go.Sh Go.RowKit
set_option maxRecDepth 100000
def cxu (cx : Nat → Option Nat) (id c : Nat) : Nat → Option Nat := fun k => if k = id then some c else cx k
theorem cxu_eq (cx : Nat → Option Nat) (id c : Nat) : cxu cx id c id = some c := if_pos rfl
theorem cxu_ne {cx : Nat → Option Nat} {id c k : Nat} (h : k ≠ id) : cxu cx id c k = cx k := if_neg h
theorem cxu_same {cx : Nat → Option Nat} {id c : Nat} (h : cx id = some c) : cxu cx id c = cx := by
  funext k; unfold cxu; split
  · rename_i e; rw [e, h]
  · rfl
theorem cxu_mono {cx : Nat → Option Nat} {id c : Nat} (h : cx id = none) : ∀ k b, cx k = some b → cxu cx id c k = some b := by
  intro k b hk
  rw [cxu_ne]
  · exact hk
  · rintro rfl; rw [h] at hk; cases hk
theorem Inv.pageAt {T : Hp} {sb : Nat} {S : Sk} {A : St} {G : Gh} (I : Inv T sb S A G) {p i id : Nat} (hp : p ∈ G.pl) (hid : (G.fid p)[i]? = some id) :
    ∃ P fl cb cl fb L F a, PgOk T A G.cx p (G.fid p) P fl cb cl ∧ P.frames.a = some ⟨fb, 0, none⟩ ∧ T fb = some (.frs p L) ∧ L.length = P.frames.cap ∧ L.take fl.length = fl ∧ fl[i]? = some F ∧ FrOk A G.cx cl F id a ∧ i < fl.length := by
  obtain ⟨P, fl, cb, cl, hP⟩ := I.page p hp
  have hi : i < fl.length := by
    rw [hP.cnt]
    rcases Nat.lt_or_ge i (G.fid p).length with h | h
    · exact h
    · rw [List.getElem?_eq_none h] at hid; cases hid
  obtain ⟨fb, L, h1, h2, h3, h4⟩ := hP.frames.blk (by omega)
  have hF : fl[i]? = some (fl[i]'hi) := List.getElem?_eq_getElem hi
  obtain ⟨a, ha⟩ := hP.fr i _ id hF hid
  exact ⟨P, fl, cb, cl, fb, L, _, a, hP, h1, h2, h3, h4, hF, ha, hi⟩
theorem take_set {A : Type} {L fl : List A} (h : L.take fl.length = fl) (i : Nat) (x : A) : (L.set i x).take (fl.set i x).length = fl.set i x := by
  rw [List.length_set, List.take_set, h]
/-- All stays but frames. -/
def Kp (T T' : Hp) : Prop := ∀ b o, T b = some o → (∀ q L, o ≠ .frs q L) → T' b = some o
theorem Kp.refl (T : Hp) : Kp T T := fun _ _ h _ => h
theorem Kp.trans {T T1 T2 : Hp} (h : Kp T T1) (k : Kp T1 T2) : Kp T T2 := fun b o ho hn => k b o (h b o ho hn) hn
variable {w : World} {T : Hp} {sb : Nat} {S : Sk} {A : St} {G : Gh}
theorem married (I : Inv T sb S A G) {p i id : Nat} (hp : p ∈ G.pl) (hid : (G.fid p)[i]? = some id) {P : Pg} {fl L : List Fr} {cb fb c : Nat} {cl : List Int} {F : Fr} {a : Ac}
    (hP : PgOk T A G.cx p (G.fid p) P fl cb cl) (ha : P.frames.a = some ⟨fb, 0, none⟩) (hb : T fb = some (.frs p L)) (hL : L.length = P.frames.cap) (ht : L.take fl.length = fl) (hF : fl[i]? = some F) (hfr : FrOk A G.cx cl F id a) (hx : G.cx id = none) (hn : T c = none) (hi : i < fl.length) :
    Inv (put (put T c (.ctx ⟨0, false, some p, i, 0, ⟨none, 0, 0⟩, ⟨none, 0, 0⟩, 0, none⟩)) fb (.frs p (L.set i { F with ctx := some c }))) sb S A { G with cx := cxu G.cx id c } := by
  have hb1 := put_new (p := .ctx ⟨0, false, some p, i, 0, ⟨none, 0, 0⟩, ⟨none, 0, 0⟩, 0, none⟩) hb hn
  have hcf : c ≠ fb := by rintro rfl; rw [hn] at hb; cases hb
  obtain ⟨T2, hT2⟩ : ∃ T2, T2 = put (put T c (.ctx ⟨0, false, some p, i, 0, ⟨none, 0, 0⟩, ⟨none, 0, 0⟩, 0, none⟩)) fb (.frs p (L.set i { F with ctx := some c })) := ⟨_, rfl⟩
  rw [← hT2]
  -- what stays
  have keep : ∀ b o, T b = some o → (∀ L', o ≠ .frs p L') → T2 b = some o := by
    intro b o ho hne
    rw [hT2]
    exact put_other (put_new ho hn) hb1 (hne L)
  have hT2c : T2 c = some (.ctx ⟨0, false, some p, i, 0, ⟨none, 0, 0⟩, ⟨none, 0, 0⟩, 0, none⟩) := by
    rw [hT2, put_ne _ hcf, put_eq]
  have hT2f : T2 fb = some (.frs p (L.set i { F with ctx := some c })) := by rw [hT2, put_eq]
  have hloc : G.loc id = some (p, i) := I.l1 p i id hp hid
  have mono := cxu_mono (c := c) hx
  have hfl : fl.length = (G.fid p).length := hP.cnt
  refine { I with stk := keep _ _ I.stk (by simp), pgs := ?_, page := ?_, ctx := ?_, inj := ?_, here := ?_, nmd := ?_, nctx := ?_ }
  · obtain ⟨h1, h2, h3, b, L', h4, h5, h6⟩ := I.pgs
    exact ⟨h1, h2, h3, b, L', h4, keep _ _ h5 (by simp), h6⟩
  · intro q hq
    by_cases e : q = p
    · subst e
      refine ⟨P, fl.set i { F with ctx := some c }, cb, cl, ?_⟩
      refine { page := keep _ _ hP.page (by simp), cells := hP.cells, has := keep _ _ hP.has (by simp), cll := hP.cll, frames := ?_, cnt := by rw [List.length_set]; exact hP.cnt, fr := ?_, first := ?_, next := ?_, below := fun id' h' => (hP.below id' h').mono mono, link := hP.link }
      · refine ⟨by rw [List.length_set]; exact hP.frames.len, hP.frames.le, hP.frames.max, .inr ⟨fb, _, ha, hT2f, by rw [List.length_set]; exact hL, take_set ht i _⟩⟩
      · intro j F' jd hF' hjd
        by_cases ej : j = i
        · subst ej
          rw [hid, Option.some.injEq] at hjd
          subst hjd
          rw [List.getElem?_set_self hi] at hF'
          simp only [Option.some.injEq] at hF'
          subst hF'
          exact ⟨a, { hfr with ctx := (cxu_eq _ _ _).symm }⟩
        · rw [List.getElem?_set_ne (by omega)] at hF'
          obtain ⟨a', h'⟩ := hP.fr j F' jd hF' hjd
          have hne : jd ≠ id := by
            rintro rfl
            have := I.l1 q j jd hp hjd
            rw [hloc, Option.some.injEq, Prod.mk.injEq] at this
            exact ej this.2.symm
          exact ⟨a', { h' with ctx := by rw [h'.ctx]; exact (cxu_ne hne).symm }⟩
      · intro F' hF'
        by_cases ej : i = 0
        · subst ej
          rw [List.getElem?_set_self hi] at hF'
          simp only [Option.some.injEq] at hF'
          subst hF'
          exact hP.first F hF
        · rw [List.getElem?_set_ne (by omega)] at hF'
          exact hP.first F' hF'
      · intro j F1 F2 h1 h2
        rw [List.getElem?_set] at h1 h2
        have k1 : ∃ F1', fl[j]? = some F1' ∧ F1'.fin = F1.fin := by
          split at h1
          · rename_i e; subst e
            simp only [Option.some.injEq] at h1; subst h1; exact ⟨F, hF, rfl⟩
          · exact ⟨F1, h1, rfl⟩
        have k2 : ∃ F2', fl[j + 1]? = some F2' ∧ F2'.base = F2.base := by
          split at h2
          · rename_i e; subst e
            simp only [Option.some.injEq] at h2; subst h2; exact ⟨F, hF, rfl⟩
          · exact ⟨F2, h2, rfl⟩
        obtain ⟨F1', a1, a2⟩ := k1
        obtain ⟨F2', b1, b2⟩ := k2
        rw [← b2, ← a2]
        exact hP.next j F1' F2' a1 b1
    · obtain ⟨P', fl', cb', cl', hP'⟩ := I.page q hq
      refine ⟨P', fl', cb', cl', ?_⟩
      have h' := hP'.mono (T' := T2) (fun P h => keep _ _ h (by simp)) (fun b L h => keep _ _ h (by simp)) (fun b L' h => keep _ _ h (by simp [e]))
      refine { h' with fr := ?_, below := fun id' k => (hP'.below id' k).mono mono }
      intro j F' jd hF' hjd
      obtain ⟨a', k⟩ := hP'.fr j F' jd hF' hjd
      have hne : jd ≠ id := by
        rintro rfl
        have := I.l1 q j jd hq hjd
        rw [hloc, Option.some.injEq, Prod.mk.injEq] at this
        exact e this.1.symm
      exact ⟨a', { k with ctx := by rw [k.ctx]; exact (cxu_ne hne).symm }⟩
  · intro id' c' hc'
    by_cases e : id' = id
    · subst e
      have : c' = c := by
        have h2 := cxu_eq G.cx id' c
        simp only at hc'
        rw [h2, Option.some.injEq] at hc'
        exact hc'.symm
      subst this
      refine ⟨_, a, { ctx := hT2c, act := hfr.act, dead := by rw [hfr.alive]; rfl, number := ?_, framed := ?_, lone := ?_ }⟩
      · unfold St.num
        rw [if_neg (fun h => I.nctx _ h hx)]
      · intro p' i' h'
        simp only at h'
        rw [hloc, Option.some.injEq, Prod.mk.injEq] at h'
        obtain ⟨rfl, rfl⟩ := h'
        exact ⟨rfl, rfl⟩
      · intro _ h'
        simp only at h'
        rw [hloc] at h'; cases h'
    · simp only at hc'
      rw [cxu_ne e] at hc'
      obtain ⟨C', a', k⟩ := I.ctx id' c' hc'
      refine ⟨C', a', { k with ctx := keep _ _ k.ctx (by simp), lone := ?_ }⟩
      intro h1 h2
      obtain ⟨g1, g2, g3, g4, g5, g6, g7, g8⟩ := k.lone h1 h2
      exact ⟨g1, g2, g3, g4, g5, g6.mono fun b L h => keep _ _ h (by simp), g7.mono fun b L h => keep _ _ h (by simp), g8.mono mono⟩
  · intro i1 i2 c' h1 h2
    simp only at h1 h2
    by_cases e1 : i1 = id
    · by_cases e2 : i2 = id
      · rw [e1, e2]
      · subst e1
        rw [cxu_eq, Option.some.injEq] at h1
        rw [cxu_ne e2] at h2
        subst h1
        obtain ⟨C', a', k⟩ := I.ctx _ _ h2
        have := k.ctx
        rw [hn] at this; cases this
    · by_cases e2 : i2 = id
      · subst e2
        rw [cxu_eq, Option.some.injEq] at h2
        rw [cxu_ne e1] at h1
        subst h2
        obtain ⟨C', a', k⟩ := I.ctx _ _ h1
        have := k.ctx
        rw [hn] at this; cases this
      · rw [cxu_ne e1] at h1
        rw [cxu_ne e2] at h2
        exact I.inj _ _ _ h1 h2
  · intro id' h'
    rcases I.here id' h' with k | k
    · exact .inl k
    · right
      cases hk : G.cx id' with
      | none => exact absurd hk k
      | some c' => simp only; rw [mono _ _ hk]; simp
  · obtain ⟨h1, h2, h3, h4⟩ := I.nmd
    refine ⟨h1, h2, h3, h4.imp (fun h => h) fun ⟨b, L', k1, k2, k3, k4⟩ => ⟨b, L', k1, keep _ _ k2 (by simp), k3, ?_⟩⟩
    rw [k4]
    refine List.map_congr_left fun id' hm => ?_
    have : id' ≠ id := by rintro rfl; exact I.nctx _ hm hx
    exact (cxu_ne this).symm
  · intro id' hm
    cases hk : G.cx id' with
    | none => exact absurd hk (I.nctx _ hm)
    | some c' => simp only; rw [mono _ _ hk]; simp
theorem marry_spec (h : Th en w T) (I : Inv T sb S A G) {p i id : Nat} (hp : p ∈ G.pl) (hid : (G.fid p)[i]? = some id) :
    Sp (f30_frames_page_marry (pt (some p)) (i : Int)) w T fun r _ T' => ∃ c, r = pt (some c) ∧ Inv T' sb S A { G with cx := cxu G.cx id c } ∧ (∀ k b, G.cx k = some b → cxu G.cx id c k = some b) ∧ Kp T T' := by
  unfold f30_frames_page_marry
  have C := Tr.refl h
  obtain ⟨P, fl, cb, cl, fb, L, F, a, hP, ha, hb, hL, ht, hF, hfr, hi⟩ := I.pageAt hp hid
  have hlen := hP.frames.len
  have hLi := take_at ht hF
  refine ok_drfS ?_
  refine ok_tld C hP.page (x := P.frames) rfl ?_
  refine ok_ixN ha (by omega) (by omega) ?_
  rw [Int.toNat_natCast]
  refine ok_tld C hb (x := pt F.ctx) (rd_fr hLi (by decide) rfl) ?_
  cases hx : G.cx id with
  | some c =>
    have hc : F.ctx = some c := hfr.ctx.trans hx
    rw [hc]
    refine ok_bnd.2 (ok_false rfl (ok_ret.2 ?_))
    refine ok_tld C hb (x := pt (some c)) (rd_fr hLi (by decide) (by rw [← hc]; rfl)) ?_
    refine ok_ret.2 ⟨T, C, c, rfl, ?_⟩
    rw [cxu_same hx]
    exact ⟨I, fun _ _ h => h, Kp.refl T⟩
  | none =>
    have hc : F.ctx = none := hfr.ctx.trans hx
    rw [hc]
    refine ok_bnd.2 (ok_true rfl ?_)
    refine ok_tnew C (.ctx ⟨0, false, some p, i, 0, ⟨none, 0, 0⟩, ⟨none, 0, 0⟩, 0, none⟩) rfl fun c w hn C => ?_
    have hb1 := put_new (p := .ctx ⟨0, false, some p, i, 0, ⟨none, 0, 0⟩, ⟨none, 0, 0⟩, 0, none⟩) hb hn
    have hiL : i < L.length := by
      rcases Nat.lt_or_ge i L.length with h | h
      · exact h
      · rw [List.getElem?_eq_none h] at hLi; cases hLi
    have hln : (en (.frs p L)).length = 6 * L.length := flat_length fr_len L
    refine ok_twr C (.frs p (L.set i { F with ctx := some c })) hb1 (by rw [hln]; simp; omega) rfl (wr_fr hLi (by simp) rfl) fun w C => ?_
    refine ok_ret.2 ?_
    refine ok_tld C (put_eq _ _ _) (x := pt (some c)) (rd_fr (f := { F with ctx := some c }) (by rw [List.getElem?_set_self hiL]) (by decide) rfl) ?_
    refine ok_ret.2 ⟨_, C, c, rfl, ?_⟩
    exact ⟨married I hp hid hP ha hb hL ht hF hfr hx hn hi, cxu_mono hx, fun b o ho hne => put_other (put_new ho hn) hb1 (hne p L)⟩
end Go.Proofs.Ytckfidopkajpaaa

/-
  Turning the stack's record, a page's record; the page that is used; a frame's sender.
-/
namespace Go.Proofs.Ytckfidopkajpaaa
set_option linter.unusedVariables false
open Go.Sh Go.RowKit
set_option maxRecDepth 100000
variable {w : World} {T : Hp} {sb : Nat} {S : Sk} {A : St} {G : Gh}
theorem Inv.move (I : Inv T sb S A G) {T2 : Hp} {S' : Sk} (hs : T2 sb = some (.stk S')) (hS : S'.pages = S.pages ∧ S'.cells = S.cells ∧ S'.most = S.most ∧ S'.living = S.living ∧ S'.named = S.named)
    (kc : ∀ b C, T b = some (.ctx C) → T2 b = some (.ctx C)) (ki : ∀ b o L, T b = some (.ints o L) → T2 b = some (.ints o L)) (kp : ∀ b L, T b = some (.pages L) → T2 b = some (.pages L)) (kn : ∀ b L, T b = some (.named L) → T2 b = some (.named L))
    (pg : ∀ p ∈ G.pl, ∃ P fl cb cl, PgOk T2 A G.cx p (G.fid p) P fl cb cl) : Inv T2 sb S' A G := by
  obtain ⟨e1, e2, e3, e4, e5⟩ := hS
  refine { I with stk := hs, cells := e2.trans I.cells, most := e3.trans I.most, living := e4.trans I.living, pgs := ?_, page := pg, ctx := ?_, nmd := ?_ }
  · rw [e1]
    obtain ⟨h1, h2, h3, b, L', h4, h5, h6⟩ := I.pgs
    exact ⟨h1, h2, h3, b, L', h4, kp _ _ h5, h6⟩
  · intro id c hc
    obtain ⟨C, a, k⟩ := I.ctx id c hc
    refine ⟨C, a, { k with ctx := kc _ _ k.ctx, lone := fun h1 h2 => ?_ }⟩
    obtain ⟨g1, g2, g3, g4, g5, g6, g7, g8⟩ := k.lone h1 h2
    exact ⟨g1, g2, g3, g4, g5, g6.mono fun b L h => ki _ _ _ h, g7.mono fun b L h => ki _ _ _ h, g8⟩
  · rw [e5]
    obtain ⟨h1, h2, h3, h4⟩ := I.nmd
    exact ⟨h1, h2, h3, h4.imp (fun h => h) fun ⟨b, L', k1, k2, k3, k4⟩ => ⟨b, L', k1, kn _ _ k2, k3, k4⟩⟩
theorem Inv.stkPut (I : Inv T sb S A G) (S' : Sk) (hS : S'.pages = S.pages ∧ S'.cells = S.cells ∧ S'.most = S.most ∧ S'.living = S.living ∧ S'.named = S.named) : Inv (put T sb (.stk S')) sb S' A G := by
  have keep : ∀ b o, T b = some o → (∀ S, o ≠ .stk S) → put T sb (.stk S') b = some o := fun b o h hn => put_other h I.stk (hn S)
  refine I.move (put_eq _ _ _) hS (fun b C h => keep _ _ h (by simp)) (fun b o L h => keep _ _ h (by simp)) (fun b L h => keep _ _ h (by simp)) (fun b L h => keep _ _ h (by simp)) fun p hp => ?_
  obtain ⟨P, fl, cb, cl, hP⟩ := I.page p hp
  exact ⟨P, fl, cb, cl, hP.mono (fun P h => keep _ _ h (by simp)) (fun b L h => keep _ _ h (by simp)) (fun b L h => keep _ _ h (by simp))⟩
/-- A page's record, but not what it holds. -/
theorem Inv.pgPut (I : Inv T sb S A G) {p : Nat} (hp : p ∈ G.pl) {P P' : Pg} (h : T p = some (.page P)) (h1 : P'.cells = P.cells) (h2 : P'.frames = P.frames) (h3 : ∀ id, (G.fid p)[0]? = some id → Sn A G.cx P'.below (A.eff id)) : Inv (put T p (.page P')) sb S A G := by
  have keep : ∀ b o, T b = some o → (∀ P, o ≠ .page P) → put T p (.page P') b = some o := fun b o h' hn => put_other h' h (hn P)
  refine I.move (keep _ _ I.stk (by simp)) ⟨rfl, rfl, rfl, rfl, rfl⟩ (fun b C h => keep _ _ h (by simp)) (fun b o L h => keep _ _ h (by simp)) (fun b L h => keep _ _ h (by simp)) (fun b L h => keep _ _ h (by simp)) fun q hq => ?_
  obtain ⟨Q, fl, cb, cl, hQ⟩ := I.page q hq
  by_cases e : q = p
  · subst e
    have : Q = P := by have := hQ.page; rw [h, Option.some.injEq, Ob.page.injEq] at this; exact this.symm
    subst this
    exact ⟨P', fl, cb, cl, { hQ with page := put_eq _ _ _, cells := h1.trans hQ.cells, has := keep _ _ hQ.has (by simp), frames := by rw [h2]; exact hQ.frames.mono fun b L h => keep _ _ h (by simp), below := h3 }⟩
  · exact ⟨Q, fl, cb, cl, hQ.mono (fun P h => by rw [put_ne _ e]; exact h) (fun b L h => keep _ _ h (by simp)) (fun b L h => keep _ _ h (by simp))⟩
theorem Inv.pageOf (I : Inv T sb S A G) {p : Nat} (hp : p ∈ G.pl) : ∃ P, T p = some (.page P) := by
  obtain ⟨P, fl, cb, cl, hP⟩ := I.page p hp
  exact ⟨P, hP.page⟩
theorem use_spec (h : Th en w T) (I : Inv T sb S A G) {p : Nat} (hp : p ∈ G.pl) :
    Sp (f33_frames_Stack_use (pt (some sb)) (pt (some p))) w T fun _ _ T' => ∃ S', Inv T' sb S' A G ∧ S'.top = some p ∧ S'.alone = none := by
  unfold f33_frames_Stack_use
  have C := Tr.refl h
  refine ok_drfS ?_
  refine ok_tld C I.stk (x := S.clock) rfl ?_
  refine ok_drfS ?_
  generalize IntKind.wrap .i64 (S.clock + 1) = ck
  refine ok_twr C (.stk { S with clock := ck }) I.stk (by simp [en, Sk.en]) rfl rfl fun w C => ?_
  have I1 := I.stkPut { S with clock := ck } ⟨rfl, rfl, rfl, rfl, rfl⟩
  generalize put T sb (.stk { S with clock := ck }) = T1 at C I1
  generalize hS1 : ({ S with clock := ck } : Sk) = S1 at C I1
  refine ok_drfS ?_
  refine ok_tld C I1.stk (x := S1.clock) rfl ?_
  obtain ⟨P, hP⟩ := I1.pageOf hp
  refine ok_drfS ?_
  refine ok_twr C (.page { P with used := S1.clock }) hP (by simp [en, Pg.en]) rfl rfl fun w C => ?_
  have I2 := I1.pgPut hp (P' := { P with used := S1.clock }) hP rfl rfl (by
    obtain ⟨Q, fl, cb, cl, hQ⟩ := I1.page p hp
    have : Q = P := by have := hQ.page; rw [hP, Option.some.injEq, Ob.page.injEq] at this; exact this.symm
    subst this
    exact hQ.below)
  generalize put T1 p (.page { P with used := S1.clock }) = T2 at C I2
  refine ok_drfS ?_
  refine ok_twr C (.stk { S1 with top := some p }) I2.stk (by simp [en, Sk.en]) rfl rfl fun w C => ?_
  have I3 := I2.stkPut { S1 with top := some p } ⟨rfl, rfl, rfl, rfl, rfl⟩
  refine ok_drfS ?_
  refine ok_twr C (.stk { S1 with top := some p, alone := none }) I3.stk (by simp [en, Sk.en]) rfl rfl fun w C => ?_
  have I4 := I3.stkPut { S1 with top := some p, alone := none } ⟨rfl, rfl, rfl, rfl, rfl⟩
  exact ok_ret.2 ⟨_, C, _, I4, rfl, rfl⟩
theorem sender_spec (h : Th en w T) (I : Inv T sb S A G) {p i id : Nat} (hp : p ∈ G.pl) (hid : (G.fid p)[i]? = some id) :
    Sp (f72_frames_page_sender (pt (some p)) (i : Int)) w T fun r _ T' => ∃ cx' c, (∀ k b, G.cx k = some b → cx' k = some b) ∧ Inv T' sb S A { G with cx := cx' } ∧ r = pt c ∧ Sn A cx' c (A.eff id) ∧ Kp T T' := by
  unfold f72_frames_page_sender
  have C := Tr.refl h
  obtain ⟨P, fl, cb, cl, fb, L, F, a, hP, ha, hb, hL, ht, hF, hfr, hi⟩ := I.pageAt hp hid
  have hc := hP.cnt
  by_cases h0 : i = 0
  · subst h0
    refine ok_false (by simp) ?_
    refine ok_drfS ?_
    refine ok_tld C hP.page (x := pt P.below) rfl ?_
    exact ok_ret.2 ⟨T, C, G.cx, P.below, fun _ _ h => h, I, rfl, hP.below id hid, Kp.refl T⟩
  · obtain ⟨j, rfl⟩ : ∃ j, i = j + 1 := ⟨i - 1, by omega⟩
    have hj : (G.fid p)[j]? = some ((G.fid p)[j]'(by omega)) := List.getElem?_eq_getElem (by omega)
    generalize (G.fid p)[j]'(by omega) = jd at hj
    refine ok_true (by simp) ?_
    have e1 : IntKind.wrap .i64 (((j + 1 : Nat) : Int) - 1) = (j : Int) := by
      have := I.cmax
      have hml : maxLen = 9223372036854775807 := by decide
      have h1 := hP.frames.len; have h2 := hP.frames.le; have h3 := hP.frames.max
      rw [wrapI_in (by omega)]; omega
    rw [e1]
    refine ok_tcall C (marry_spec C.th I hp hj) ?_
    rintro r w' T' C ⟨c, rfl, I', hext, hk⟩
    have hl := hP.link j jd id hj hid
    obtain ⟨P2, fl2, cb2, cl2, fb2, L2, F2, a2, hP2, _, _, _, _, _, hfr2, _⟩ := I.pageAt hp hj
    have hal : A.alive jd = true := by unfold St.alive; rw [hfr2.act]; exact hfr2.alive
    exact ok_ret.2 ⟨T', C, cxu G.cx jd c, some c, hext, I', rfl, ⟨jd, cxu_eq _ _ _, by rw [hl, hal]; rfl⟩, hk⟩
end Go.Proofs.Ytckfidopkajpaaa

/-
  A row of numbers is copied.
-/
namespace Go.Sh
set_option linter.unusedVariables false
open Go.RowKit
theorem ok_buildL0 {P : Program} {T e : TypeId} {z : Value} {by_ : Nat} (SL : SlT P T e z by_) {w : World} {Q : Sl → World → Prop} (hq : Q ⟨some ⟨w.heap.size, 0, none⟩, 0, 0⟩ (w.alloc (.cells #[] e))) : Ok (runV P .sl (Instr.buildSlice T 0 #[])) w Q := by
  obtain ⟨i, hi, hs, hz, hb⟩ := SL.info
  refine ok_runV (v := .slice (some ⟨w.heap.size, 0, none⟩) 0 0) (w' := w.alloc (.cells #[] e)) ?_ rfl hq
  simp [Instr.buildSlice, run_underlying SL.under, sizeOf, typeInfo, zeroValue, hi, hz, hs, Instr.fill, newRow, SL.cells]
  rw [show (Array.range 0) = #[] from by decide, Array.map_empty]
end Go.Sh
namespace Go.Proofs.Ytckfidopkajpaaa
set_option linter.unusedVariables false
open Go.Sh Go.RowKit
set_option maxRecDepth 100000
variable {w : World} {T : Hp} {sb : Nat} {S : Sk} {A : St} {G : Gh}
theorem slt22 : SlT Try.prog 22 2 (.int .i64 0) 8 := ⟨by kernel_rfl, ⟨_, (by kernel_rfl : Try.prog.info? 2 = some Try.t2), rfl, rfl, rfl⟩, rfl⟩
theorem arr_of {b off : Nat} {o : Ow} {L l : List Int} {s : Sl} (h : Th en w T) (hb : T b = some (.ints o L)) (hs : l ≠ [] → s.a = some ⟨b, off, none⟩) (hl : (L.drop off).take l.length = l) (h1 : s.len = l.length) (h2 : s.len ≤ s.cap) (h3 : s.cap ≤ maxLen) : Arr w.heap.size w s (nums .i64 l) := by
  refine ⟨by simpa using h1, h2, h3, ?_⟩
  by_cases h0 : l = []
  · left; rw [h0]; rfl
  · right
    refine ⟨b, off, _, hs h0, h.lt hb, (h b _ hb).1, fun i hi => ?_⟩
    simp only [nums, List.length_map] at hi
    show (en (.ints o L)).toArray[off + i]? = _
    simp only [en, nums, List.getElem?_toArray, List.getElem?_map]
    conv => rhs; rw [← hl]
    rw [List.getElem?_take_of_lt hi, List.getElem?_drop]
theorem clone_spec (h : Th en w T) {s : Sl} {l : List Int} (H : Arr w.heap.size w s (nums .i64 l)) (hl : l.length ≤ 100000) (o : Ow) :
    Sp (f64_slices_Cloneint64_int64 s) w T fun r _ T' => In T' o r l ∧ ∀ b p, T b = some p → T' b = some p := by
  unfold f64_slices_Cloneint64_int64
  have hml : maxLen = 9223372036854775807 := by decide
  have C := Tr.refl h
  have hlen : s.len = l.length := by have := H.1; simpa using this
  cases hs : s.a with
  | none =>
    have h0 : l = [] := by
      rcases H.2.2.2 with h1 | ⟨b, o', c, h1, _⟩
      · simpa [nums] using h1
      · rw [hs] at h1; cases h1
    subst h0
    exact ok_true rfl (ok_ret.2 ⟨T, C, ⟨rfl, Nat.le_refl _, Nat.zero_le _, .inl rfl⟩, fun _ _ h => h⟩)
  | some a =>
    refine ok_false rfl ?_
    rw [← hs]
    refine ok_bnd.2 (ok_buildL0 slt22 ?_)
    have hB : Below w.heap.size w (w.alloc (.cells #[] 2)) := (Below.refl _ _).alloc (Nat.le_refl _) _
    have C1 := C.call hB
    have H1 : Arr (w.alloc (.cells #[] 2)).heap.size (w.alloc (.cells #[] 2)) s (nums .i64 l) := arr_size (arr_below H hB)
    have A0 : Arr (w.alloc (.cells #[] 2)).heap.size (w.alloc (.cells #[] 2)) (⟨some ⟨w.heap.size, 0, none⟩, 0, 0⟩ : Sl) [] := ⟨rfl, Nat.le_refl _, Nat.zero_le _, .inl rfl⟩
    generalize w.alloc (.cells #[] 2) = w1 at C1 H1 A0
    have K := arr_src slt22.under H1 (nums_one l)
    obtain ⟨inf, hinf, hsz, hz, hby⟩ := slt22.info
    by_cases h0 : l = []
    · subst h0
      have hz0 : s.len = 0 := hlen
      have K' : Src Try.prog inf.size 22 (.slice s.a s.len s.cap) 0 [] w1 := by
        have h9 : Src Try.prog 1 22 (.slice s.a s.len s.cap) s.len [] w1 := K
        rw [hsz]
        rw [hz0] at h9 ⊢
        exact h9
      refine ok_bnd.2 (ok_runV (run_append_nothing w1 22 22 22 2 inf slt22.under hinf (some ⟨w.heap.size, 0, none⟩) 0 0 (Nat.le_refl _) _ K') (x := (⟨some ⟨w.heap.size, 0, none⟩, 0, 0⟩ : Sl)) rfl ?_)
      exact ok_ret.2 ⟨T, C1, ⟨rfl, Nat.le_refl _, Nat.zero_le _, .inl rfl⟩, fun _ _ h => h⟩
    · have hpos : 0 < l.length := List.length_pos_iff.2 h0
      refine ok_bnd.2 (ok_append_new slt22 A0 (by simp) K (by show 0 < 0 + s.len; omega) (by show (0 + s.len) * 8 ≤ _; omega) (by show 0 + s.len ≤ maxLen; omega) fun c hc1 hc2 => ?_)
      have e1 : ([] ++ nums .i64 l ++ List.replicate (c - (0 + s.len)) (Value.int .i64 0)) = en (.ints o (l ++ List.replicate (c - s.len) 0)) := by
        simp [en, nums]
      simp only at hc1
      rw [e1]
      have C2 := C1.drew.alloc (.ints o (l ++ List.replicate (c - s.len) 0)) 2
      refine ok_ret.2 ⟨_, C2, ⟨by show 0 + s.len = _; omega, hc1, hc2, .inr ⟨w1.heap.size, _, rfl, put_eq _ _ _, ?_⟩⟩, fun b p hp => put_new hp C1.drew.none_at⟩
      rw [List.take_append_of_le_length (Nat.le_refl _), List.take_length]
end Go.Proofs.Ytckfidopkajpaaa

/-
  Frames are laid into contexts on their own.
-/
namespace Go.Proofs.Ytckfidopkajpaaa
set_option linter.unusedVariables false
open Go.Sh Go.RowKit
set_option maxRecDepth 100000
variable {w : World} {T : Hp} {sb : Nat} {S : Sk} {A : St} {G : Gh}
theorem Inv.grow (I : Inv T sb S A G) {T2 : Hp} (k : ∀ b o, T b = some o → T2 b = some o) : Inv T2 sb S A G :=
  I.move (k _ _ I.stk) ⟨rfl, rfl, rfl, rfl, rfl⟩ (fun _ _ h => k _ _ h) (fun _ _ _ h => k _ _ h) (fun _ _ h => k _ _ h) (fun _ _ h => k _ _ h) fun p hp => by
    obtain ⟨P, fl, cb, cl, hP⟩ := I.page p hp
    exact ⟨P, fl, cb, cl, hP.mono (fun P h => k _ _ h) (fun b L h => k _ _ h) (fun b L h => k _ _ h)⟩
/-- A married context's own fields are free. -/
theorem Inv.ctPut (I : Inv T sb S A G) {id c : Nat} {C C' : Ct} (hc : G.cx id = some c) (hT : T c = some (.ctx C)) (hl : G.loc id ≠ none) (h : C'.number = C.number ∧ C'.dead = C.dead ∧ C'.page = C.page ∧ C'.at_ = C.at_) : Inv (put T c (.ctx C')) sb S A G := by
  have keep : ∀ b o, T b = some o → (∀ C, o ≠ .ctx C) → put T c (.ctx C') b = some o := fun b o h hn => put_other h hT (hn C)
  refine { I with stk := keep _ _ I.stk (by simp), pgs := ?_, page := ?_, ctx := ?_, nmd := ?_ }
  · obtain ⟨h1, h2, h3, b, L', h4, h5, h6⟩ := I.pgs
    exact ⟨h1, h2, h3, b, L', h4, keep _ _ h5 (by simp), h6⟩
  · intro p hp
    obtain ⟨P, fl, cb, cl, hP⟩ := I.page p hp
    exact ⟨P, fl, cb, cl, hP.mono (fun P h => keep _ _ h (by simp)) (fun b L h => keep _ _ h (by simp)) (fun b L h => keep _ _ h (by simp))⟩
  · intro jd c' hc'
    obtain ⟨D, a, k⟩ := I.ctx jd c' hc'
    by_cases e : jd = id
    · subst e
      have : c' = c := by rw [hc, Option.some.injEq] at hc'; exact hc'.symm
      subst this
      have : D = C := by have := k.ctx; rw [hT, Option.some.injEq, Ob.ctx.injEq] at this; exact this.symm
      subst this
      exact ⟨C', a, { ctx := put_eq _ _ _, act := k.act, dead := h.2.1.trans k.dead, number := h.1.trans k.number, framed := fun p i hp => by rw [h.2.2.1, h.2.2.2]; exact k.framed p i hp, lone := fun _ h0 => absurd h0 hl }⟩
    · have hne : c' ≠ c := by rintro rfl; exact e (I.inj _ _ _ hc' hc)
      refine ⟨D, a, { k with ctx := by rw [put_ne _ hne]; exact k.ctx, lone := fun h1 h2 => ?_ }⟩
      obtain ⟨g1, g2, g3, g4, g5, g6, g7, g8⟩ := k.lone h1 h2
      exact ⟨g1, g2, g3, g4, g5, g6.mono fun b L h => keep _ _ h (by simp), g7.mono fun b L h => keep _ _ h (by simp), g8⟩
  · obtain ⟨h1, h2, h3, h4⟩ := I.nmd
    exact ⟨h1, h2, h3, h4.imp (fun h => h) fun ⟨b, L', k1, k2, k3, k4⟩ => ⟨b, L', k1, keep _ _ k2 (by simp), k3, k4⟩⟩
/-- A context that has all it needs on its own. -/
structure Rdy (T : Hp) (A : St) (cx : Nat → Option Nat) (id c : Nat) (C : Ct) (a : Ac) : Prop where
  at_ : cx id = some c
  ctx : T c = some (.ctx C)
  act : A.acts[id]? = some a
  method : C.method = a.method
  room : C.room = (a.room : Int)
  slots : In T (.slots c) C.slots a.slots
  stack : In T (.stack c) C.stack a.stack
  sender : Sn A cx C.sender (A.eff id)
theorem Rdy.mono {T T' : Hp} {cx cx' : Nat → Option Nat} {id c : Nat} {C : Ct} {a : Ac} (h : Rdy T A cx id c C a) (h1 : T' c = some (.ctx C)) (h2 : ∀ b o L, T b = some (.ints o L) → T' b = some (.ints o L)) (h3 : ∀ k b, cx k = some b → cx' k = some b) : Rdy T' A cx' id c C a :=
  { h with at_ := h3 _ _ h.at_, ctx := h1, slots := h.slots.mono fun b L k => h2 _ _ _ k, stack := h.stack.mono fun b L k => h2 _ _ _ k, sender := h.sender.mono h3 }
/-- A frame's place is known by its page's record. -/
theorem Inv.pageAt2 (I : Inv T sb S A G) {p i id : Nat} (hp : p ∈ G.pl) (hid : (G.fid p)[i]? = some id) {P : Pg} {fb : Nat} (hP : T p = some (.page P)) (ha : P.frames.a = some ⟨fb, 0, none⟩) {a : Ac} (hact : A.acts[id]? = some a) :
    ∃ fl cb cl L F, PgOk T A G.cx p (G.fid p) P fl cb cl ∧ T fb = some (.frs p L) ∧ L[i]? = some F ∧ FrOk A G.cx cl F id a := by
  obtain ⟨P', fl, cb, cl, fb', L, F, a', k, h1, h2, h3, h4, h5, h6, h7⟩ := I.pageAt hp hid
  have : P' = P := by have := k.page; rw [hP, Option.some.injEq, Ob.page.injEq] at this; exact this.symm
  subst this
  rw [ha] at h1
  simp only [Option.some.injEq, Addr.mk.injEq, and_true] at h1
  subst h1
  have : a' = a := by have := h6.act; rw [hact, Option.some.injEq] at this; exact this.symm
  subst this
  exact ⟨fl, cb, cl, L, F, k, h2, take_at h4 h5, h6⟩
/-- What is written into a context. -/
theorem ok_ctw {α : Type} {w0 : World} {T0 : Hp} (C : Tr en w0 T0 w T) {c k : Nat} {X : Ct} (X' : Ct) {v : Value} {f : Unit → M α} {Q : α → World → Prop} (hT : T c = some (.ctx X)) (hk : k < 9) (hv : single v = true) (hs : spl X.en k [v] = X'.en) (hq : ∀ w', Tr en w0 T0 w' (put T c (.ctx X')) → Ok (f ()) w' Q) :
    Ok (bnd (wrs (Addr.add ⟨c, 0, none⟩ k) 0 [v]) f) w Q :=
  ok_twr C (.ctx X') hT (by show 0 + k + 1 ≤ 9; omega) (by simp [hv]) (by rw [Nat.zero_add]; exact hs) hq
end Go.Proofs.Ytckfidopkajpaaa
