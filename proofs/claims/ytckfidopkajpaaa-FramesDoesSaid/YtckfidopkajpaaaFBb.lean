/-
  Parts of the proof: FBa, FBb. It states what the functions do; no further condition.
-/
import Derived.Test.YtckfidopkajpaaaFZ
set_option linter.unusedVariables false
set_option linter.unusedSimpArgs false
/-
  A new act is laid on a page's top.
-/
namespace Go.Proofs.Ytckfidopkajpaaa
set_option linter.unusedVariables false
open Go.Sh Go.RowKit
set_option maxRecDepth 100000
variable {w : World} {T : Hp} {sb : Nat} {S : Sk} {A : St} {G : Gh}
theorem get_lt {X : Type} {l : List X} {i : Nat} {x : X} (h : l[i]? = some x) : i < l.length := by
  rcases Nat.lt_or_ge i l.length with h' | h'
  · exact h'
  · rw [List.getElem?_eq_none h'] at h; cases h
def St.born (A : St) (a : Ac) : St := { A with acts := A.acts ++ [a], active := some A.acts.length, extra := A.extra - 1 }
theorem born_at {A : St} {a : Ac} : (A.born a).acts[A.acts.length]? = some a := by
  show (A.acts ++ [a])[A.acts.length]? = _
  rw [List.getElem?_append_right (Nat.le_refl _), Nat.sub_self]; rfl
theorem born_old {A : St} {a b : Ac} {k : Nat} (h : A.acts[k]? = some b) : (A.born a).acts[k]? = some b := by
  show (A.acts ++ [a])[k]? = _
  rw [List.getElem?_append_left (get_lt h)]; exact h
theorem born_ne {A : St} {a : Ac} {k : Nat} (h : k ≠ A.acts.length) : (A.born a).acts[k]? = A.acts[k]? := by
  show (A.acts ++ [a])[k]? = _
  rcases Nat.lt_or_ge k A.acts.length with h' | h'
  · rw [List.getElem?_append_left h']
  · rw [List.getElem?_eq_none (by simp; omega), List.getElem?_eq_none h']
theorem born_alive {A : St} {a : Ac} {k : Nat} (h : k ≠ A.acts.length) : (A.born a).alive k = A.alive k := by
  unfold St.alive; rw [born_ne h]
theorem born_aliveN {A : St} {a : Ac} : (A.born a).alive A.acts.length = a.alive := by
  unfold St.alive; rw [born_at]
theorem alive_ne {A : St} {k : Nat} (h : A.alive k = true) : k ≠ A.acts.length := by
  obtain ⟨a, ha, _⟩ := alive_lt h
  have := get_lt ha
  omega
theorem born_eff {A : St} {a : Ac} (hs : ∀ (k : Nat) b j, A.acts[k]? = some b → b.sender = some j → j < A.acts.length) {k : Nat} (h : k ≠ A.acts.length) : (A.born a).eff k = A.eff k := by
  unfold St.eff
  rw [born_ne h]
  cases hb : A.acts[k]? with
  | none => rfl
  | some b =>
    simp only
    cases hj : b.sender with
    | none => rfl
    | some j =>
      have := hs k b j hb hj
      simp only
      rw [born_alive (by omega)]
theorem born_effN {A : St} {a : Ac} (hs : ∀ j, a.sender = some j → A.alive j = true) : (A.born a).eff A.acts.length = a.sender := by
  unfold St.eff
  rw [born_at]
  simp only
  cases hj : a.sender with
  | none => rfl
  | some j =>
    have := hs j hj
    simp only
    rw [born_alive (alive_ne this), this]; rfl
theorem born_living {A : St} {a : Ac} (h : a.alive = true) (hx : 0 < A.extra) : (A.born a).living = A.living := by
  unfold St.living
  show (A.acts ++ [a]).countP _ + (A.extra - 1) = _
  rw [List.countP_append, List.countP_cons, h]
  simp
  omega
theorem Sn.born {a : Ac} {cx : Nat → Option Nat} {c e : Option Nat} (h : Sn A cx c e) (hcx : cx A.acts.length = none) : Sn (A.born a) cx c e := by
  cases c with
  | none => exact h
  | some c =>
    obtain ⟨k, h1, h2⟩ := h
    exact ⟨k, h1, by rw [born_alive (by rintro rfl; rw [hcx] at h1; cases h1)]; exact h2⟩
def bornF (fid : Nat → List Nat) (p n : Nat) : Nat → List Nat := fun q => if q = p then fid p ++ [n] else fid q
def bornL (fid : Nat → List Nat) (loc : Nat → Option (Nat × Nat)) (p n : Nat) : Nat → Option (Nat × Nat) := fun k => if k = n then some (p, (fid p).length) else loc k
def Gh.born (G : Gh) (p n : Nat) : Gh := { G with fid := bornF G.fid p n, loc := bornL G.fid G.loc p n }
theorem Inv.cx_new (I : Inv T sb S A G) : G.cx A.acts.length = none := by
  cases h : G.cx A.acts.length with
  | none => rfl
  | some c =>
    obtain ⟨C, a, k⟩ := I.ctx _ _ h
    have := get_lt k.act; omega
theorem Inv.loc_new (I : Inv T sb S A G) : G.loc A.acts.length = none := by
  cases h : G.loc A.acts.length with
  | none => rfl
  | some pi =>
    obtain ⟨p, i⟩ := pi
    obtain ⟨hp, hid⟩ := I.l2 _ _ _ h
    obtain ⟨P, fl, cb, cl, fb, L, F, a, h1, h2, h3, h4, h5, h6, h7, h8⟩ := I.pageAt hp hid
    have := get_lt h7.act; omega
theorem Inv.fid_ne (I : Inv T sb S A G) {p i id : Nat} (hp : p ∈ G.pl) (hid : (G.fid p)[i]? = some id) : id ≠ A.acts.length := by
  rintro rfl
  have := I.l1 p i _ hp hid
  rw [I.loc_new] at this; cases this
theorem Inv.born (I : Inv T sb S A G) (hsnd : ∀ (k : Nat) b j, A.acts[k]? = some b → b.sender = some j → j < A.acts.length) (hx : 0 < A.extra) {p cb base : Nat} {P : Pg} {fl : List Fr} {cl cl' : List Int} {s' : Sl} {a : Ac} {T2 : Hp} (hp : p ∈ G.pl) (hP : PgOk T A G.cx p (G.fid p) P fl cb cl)
    (htop : topOf fl = base) (hal : a.alive = true) (hst : a.stack = []) (hsa : ∀ j, a.sender = some j → A.alive j = true) (hfit : base + 4 + a.slots.length + a.room ≤ A.cells)
    (hs : match (G.fid p).getLast? with | some j => a.sender = some j | none => Sn A G.cx P.below a.sender)
    (k : ∀ b o, T b = some o → b ≠ p → b ≠ cb → (∀ L, o ≠ .frs p L) → T2 b = some o) (k1 : T2 p = some (.page { P with frames := s' })) (k2 : Fs T2 p s' (fl ++ [⟨a.method, base, a.slots.length, 0, a.room, none⟩]))
    (k3 : T2 cb = some (.ints (.cells p) cl')) (hcl : cl'.length = A.cells) (hout : ∀ x y, x + y ≤ base → (cl'.drop x).take y = (cl.drop x).take y) (h1 : (cl'.drop (base + 4)).take a.slots.length = a.slots) : Inv T2 sb S (A.born a) (G.born p A.acts.length) := by
  have hcm := I.cmax
  have hcx := I.cx_new
  have hln := I.loc_new
  -- what is neither page nor cells nor frames stays
  have keep : ∀ b o, T b = some o → (∀ P, o ≠ .page P) → (∀ L, o ≠ .ints (.cells p) L) → (∀ L, o ≠ .frs p L) → T2 b = some o := fun b o h n1 n2 n3 => k b o h (by rintro rfl; rw [hP.page, Option.some.injEq] at h; exact n1 P h.symm) (by rintro rfl; rw [hP.has, Option.some.injEq] at h; exact n2 cl h.symm) n3
  have hfr : ∀ {cx : Nat → Option Nat} {cl : List Int} {F : Fr} {id : Nat} {b : Ac}, FrOk A cx cl F id b → FrOk (A.born a) cx cl F id b := fun h => { h with act := born_old h.act }
  have hsm : ∀ F ∈ fl, F.Small := by
    intro F' hm
    obtain ⟨j, hj, rfl⟩ := List.getElem_of_mem hm
    have hjd : (G.fid p)[j]? = some ((G.fid p)[j]'(by have := hP.cnt; omega)) := List.getElem?_eq_getElem _
    obtain ⟨b, hb'⟩ := hP.fr j _ _ (List.getElem?_eq_getElem hj) hjd
    exact hb'.small I.cmax
  refine { I with stk := keep _ _ I.stk (by simp) (by simp) (by simp), living := by rw [born_living hal hx]; exact I.living, lmax := by rw [born_living hal hx]; exact I.lmax, pgs := ?_, page := ?_, l1 := ?_, l2 := ?_, ctx := ?_, here := ?_, nmd := ?_ }
  · obtain ⟨g1, g2, g3, b, L', g4, g5, g6⟩ := I.pgs
    exact ⟨g1, g2, g3, b, L', g4, keep _ _ g5 (by simp) (by simp) (by simp), g6⟩
  · intro q hq
    by_cases e : q = p
    · subst e
      have hfi : (G.born q A.acts.length).fid q = G.fid q ++ [A.acts.length] := if_pos rfl
      rw [hfi]
      have hc := hP.cnt
      refine ⟨_, _, cb, cl', { page := k1, cells := hP.cells, has := k3, cll := hcl, frames := k2, cnt := by simp [hc], fr := ?_, first := ?_, next := ?_, below := ?_, link := ?_ }⟩
      · intro i F' id' hF' hid'
        rcases Nat.lt_or_ge i fl.length with hi | hi
        · rw [List.getElem?_append_left hi] at hF'
          rw [List.getElem?_append_left (by omega)] at hid'
          obtain ⟨b, kb⟩ := hP.fr i F' id' hF' hid'
          have b1 := kb.slots; have b2 := kb.depth; have b3 := kb.room; have b4 := kb.fits; have b5 := kb.base
          have far : F'.fin ≤ base := by
            have hne : fl ≠ [] := by rintro rfl; simp at hi
            have hl : fl[fl.length - 1]? = some (fl.getLast hne) := by rw [List.getLast_eq_getElem, List.getElem?_eq_getElem]
            have hb : (fl.getLast hne).fin = base := by rw [← htop]; unfold topOf; rw [List.getLast?_eq_some_getLast hne]
            rcases Nat.lt_or_ge i (fl.length - 1) with h | h
            · obtain ⟨y, hy⟩ : ∃ y, fl.length - 1 = i + 1 + y := ⟨fl.length - 1 - i - 1, by omega⟩
              rw [hy] at hl
              have := chain_le hP.next hsm hF' y _ hl
              obtain ⟨s1, s2, s3, s4⟩ := hsm _ (List.getLast_mem hne)
              have h4 : (fl.getLast hne).base ≤ (fl.getLast hne).fin := by unfold Fr.fin; omega
              omega
            · have : i = fl.length - 1 := by omega
              subst this
              rw [hl, Option.some.injEq] at hF'
              subst hF'
              omega
          unfold Fr.fin at far
          exact ⟨b, { hfr kb with hasS := by rw [hout _ _ (by omega)]; exact kb.hasS, hasT := by rw [hout _ _ (by omega)]; exact kb.hasT }⟩
        · have : i = fl.length := by have := get_lt hF'; simp at this; omega
          subst this
          rw [List.getElem?_append_right (Nat.le_refl _), Nat.sub_self] at hF'
          rw [hc, List.getElem?_append_right (Nat.le_refl _), Nat.sub_self] at hid'
          simp only [List.getElem?_cons_zero, Option.some.injEq] at hF' hid'
          subst hF'; subst hid'
          exact ⟨a, { act := born_at, alive := hal, base := by simp only; omega, method := rfl, slots := rfl, depth := by rw [hst]; rfl, room := rfl, fits := by rw [hst]; exact Nat.zero_le _, ctx := hcx.symm, fin := by unfold Fr.fin; show _ ≤ (A.cells : Int); simp only; omega, hasS := by simpa using h1, hasT := by rw [hst]; simp }⟩
      · intro F' hF'
        cases fl with
        | nil =>
          simp only [List.nil_append, List.getElem?_cons_zero, Option.some.injEq] at hF'
          subst hF'
          show (base : Int) = 0
          rw [← htop]; rfl
        | cons F0 fl0 => exact hP.first F' hF'
      · intro i F1 F2 hF1 hF2
        have hlt := get_lt hF2
        simp only [List.length_append, List.length_singleton] at hlt
        have hi : i < fl.length := by omega
        rw [List.getElem?_append_left hi] at hF1
        rcases Nat.lt_or_ge (i + 1) fl.length with hi2 | hi2
        · rw [List.getElem?_append_left hi2] at hF2
          exact hP.next i F1 F2 hF1 hF2
        · have : i + 1 = fl.length := by omega
          rw [this, List.getElem?_append_right (Nat.le_refl _), Nat.sub_self] at hF2
          simp only [List.getElem?_cons_zero, Option.some.injEq] at hF2
          subst hF2
          show (base : Int) = _
          rw [← htop]
          unfold topOf
          rw [List.getLast?_eq_getElem?, show fl.length - 1 = i by omega, hF1]
      · intro id' hid'
        rcases hids : G.fid q with _ | ⟨j, l⟩
        · rw [hids] at hid' hs
          simp only [List.nil_append, List.getElem?_cons_zero, Option.some.injEq] at hid'
          subst hid'
          rw [born_effN hsa]
          exact Sn.born hs hcx
        · have h0 : (G.fid q)[0]? = some id' := by
            rw [List.getElem?_append_left (by rw [hids]; simp)] at hid'
            exact hid'
          rw [born_eff hsnd (I.fid_ne hp h0)]
          exact (hP.below id' h0).born hcx
      · intro i x y hix hiy
        have hlt := get_lt hiy
        simp only [List.length_append, List.length_singleton] at hlt
        have hi : i < (G.fid q).length := by omega
        rw [List.getElem?_append_left hi] at hix
        rcases Nat.lt_or_ge (i + 1) (G.fid q).length with hi2 | hi2
        · rw [List.getElem?_append_left hi2] at hiy
          rw [born_eff hsnd (I.fid_ne hp hiy)]
          exact hP.link i x y hix hiy
        · have : i + 1 = (G.fid q).length := by omega
          rw [this, List.getElem?_append_right (Nat.le_refl _), Nat.sub_self] at hiy
          simp only [List.getElem?_cons_zero, Option.some.injEq] at hiy
          subst hiy
          rw [born_effN hsa]
          rw [List.getLast?_eq_getElem?, show (G.fid q).length - 1 = i by omega, hix] at hs
          exact hs
    · have hfi : (G.born p A.acts.length).fid q = G.fid q := if_neg e
      rw [hfi]
      obtain ⟨Q, fl', cb', cl2, hQ⟩ := I.page q hq
      have hQ' := hQ.mono (T' := T2) (fun P' h => k _ _ h e (by rintro rfl; have := hP.has; rw [h] at this; cases this) (by simp)) (fun b L h => keep _ _ h (by simp) (by simp [e]) (by simp)) (fun b L h => keep _ _ h (by simp) (by simp) (by simp [e]))
      refine ⟨Q, fl', cb', cl2, { hQ' with fr := fun i F' id' h h' => ?_, below := fun id' h => ?_, link := fun i x y hx hy => ?_ }⟩
      · obtain ⟨b, kb⟩ := hQ.fr i F' id' h h'
        exact ⟨b, hfr kb⟩
      · rw [born_eff hsnd (I.fid_ne hq h)]
        exact (hQ.below id' h).born hcx
      · rw [born_eff hsnd (I.fid_ne hq hy)]
        exact hQ.link i x y hx hy
  · intro q i jd hq h
    by_cases e : q = p
    · subst e
      have hfi : (G.born q A.acts.length).fid q = G.fid q ++ [A.acts.length] := if_pos rfl
      rw [hfi] at h
      rcases Nat.lt_or_ge i (G.fid q).length with hi | hi
      · rw [List.getElem?_append_left hi] at h
        exact (if_neg (I.fid_ne hp h)).trans (I.l1 q i jd hq h)
      · have : i = (G.fid q).length := by have := get_lt h; simp at this; omega
        subst this
        rw [List.getElem?_append_right (Nat.le_refl _), Nat.sub_self] at h
        simp only [List.getElem?_cons_zero, Option.some.injEq] at h
        subst h
        exact if_pos rfl
    · have hfi : (G.born p A.acts.length).fid q = G.fid q := if_neg e
      rw [hfi] at h
      exact (if_neg (I.fid_ne hq h)).trans (I.l1 q i jd hq h)
  · intro jd q i h
    by_cases e : jd = A.acts.length
    · subst e
      have h' : some (p, (G.fid p).length) = some (q, i) := (if_pos rfl).symm.trans h
      simp only [Option.some.injEq, Prod.mk.injEq] at h'
      obtain ⟨rfl, rfl⟩ := h'
      refine ⟨hp, ?_⟩
      rw [show (G.born p A.acts.length).fid p = G.fid p ++ [A.acts.length] from if_pos rfl, List.getElem?_append_right (Nat.le_refl _), Nat.sub_self]; rfl
    · have h' : G.loc jd = some (q, i) := (if_neg e).symm.trans h
      obtain ⟨g1, g2⟩ := I.l2 jd q i h'
      refine ⟨g1, ?_⟩
      by_cases e2 : q = p
      · subst e2
        rw [show (G.born q A.acts.length).fid q = G.fid q ++ [A.acts.length] from if_pos rfl, List.getElem?_append_left (get_lt g2)]; exact g2
      · rw [show (G.born p A.acts.length).fid q = G.fid q from if_neg e2]; exact g2
  · intro jd c hc
    replace hc : G.cx jd = some c := hc
    obtain ⟨D, b, kd⟩ := I.ctx jd c hc
    have hne : jd ≠ A.acts.length := by rintro rfl; rw [hcx] at hc; cases hc
    have hlo : (G.born p A.acts.length).loc jd = G.loc jd := if_neg hne
    refine ⟨D, b, { ctx := keep _ _ kd.ctx (by simp) (by simp) (by simp), act := born_old kd.act, dead := kd.dead, number := kd.number, framed := fun q i h => kd.framed q i (hlo ▸ h), lone := fun h1 h2 => ?_ }⟩
    obtain ⟨g1, g2, g3, g4, g5, g6, g7, g8⟩ := kd.lone h1 (hlo ▸ h2)
    exact ⟨g1, g2, g3, g4, g5, g6.mono fun b L h => keep _ _ h (by simp) (by simp) (by simp), g7.mono fun b L h => keep _ _ h (by simp) (by simp) (by simp), by rw [born_eff hsnd hne]; exact g8.born hcx⟩
  · intro jd h
    by_cases e : jd = A.acts.length
    · subst e
      left
      rw [show (G.born p A.acts.length).loc A.acts.length = some (p, (G.fid p).length) from if_pos rfl]; simp
    · rw [born_alive e] at h
      rcases I.here jd h with h1 | h1
      · left
        rw [show (G.born p A.acts.length).loc jd = G.loc jd from if_neg e]; exact h1
      · exact .inr h1
  · obtain ⟨g1, g2, g3, g4⟩ := I.nmd
    exact ⟨g1, g2, g3, g4.imp (fun h => h) fun ⟨b, L', k1', k2', k3', k4'⟩ => ⟨b, L', k1', keep _ _ k2' (by simp) (by simp) (by simp), k3', k4'⟩⟩
end Go.Proofs.Ytckfidopkajpaaa

/-
  Call.
-/
namespace Go.Proofs.Ytckfidopkajpaaa
set_option linter.unusedVariables false
open Go.Sh Go.RowKit
set_option maxRecDepth 100000
variable {w : World} {T : Hp} {sb : Nat} {S : Sk} {A : St} {G : Gh}
/-- A row of numbers that is somebody else's. -/
def Away (T : Hp) (w : World) (s : Sl) (l : List Int) : Prop := Arr w.heap.size w s (nums .i64 l) ∧ (l = [] ∨ ∃ b o, s.a = some ⟨b, o, none⟩ ∧ T b = none)
theorem Away.step {w' : World} {T' : Hp} {s : Sl} {l : List Int} (h : Away T w s l) (C : Tr en w T w' T') : Away T' w' s l := by
  obtain ⟨⟨h1, h2, h3, h4⟩, h5⟩ := h
  rcases h5 with h5 | ⟨b, o, h5, h6⟩
  · exact ⟨⟨h1, h2, h3, .inl (by rw [h5]; rfl)⟩, .inl h5⟩
  · rcases h4 with h4 | ⟨b', o', c, h7, h8, h9, h10⟩
    · have : l = [] := by simpa [nums] using h4
      exact ⟨⟨h1, h2, h3, .inl h4⟩, .inl this⟩
    · rw [h5] at h7
      simp only [Option.some.injEq, Addr.mk.injEq, and_true] at h7
      obtain ⟨rfl, rfl⟩ := h7
      have hb : blk w' b = blk w b := blk_of (C.keep.block b h8 (by simpa using h6))
      refine ⟨⟨h1, h2, h3, .inr ⟨b, o, c, h5, by have := C.keep.size; omega, hb.trans h9, h10⟩⟩, .inr ⟨b, o, h5, ?_⟩⟩
      cases hT : T' b with
      | none => rfl
      | some o =>
        rcases C.new b (by rw [hT]; simp) with h | h
        · exact absurd h6 h
        · omega
theorem away_nil (T : Hp) (w : World) : Away T w ⟨none, 0, 0⟩ [] := ⟨arr_nil _ _, .inl rfl⟩
def St.more (A : St) : St := { A with extra := A.extra + 1 }
theorem Inv.more (I : Inv T sb S A G) (h : A.living < A.most) : Inv (put T sb (.stk { S with living := S.living + 1 })) sb { S with living := S.living + 1 } A.more G := by
  have hl : A.more.living = A.living + 1 := by unfold St.living St.more; simp only; omega
  have keep : ∀ b o, T b = some o → (∀ S, o ≠ .stk S) → put T sb (.stk { S with living := S.living + 1 }) b = some o := fun b o h hn => put_other h I.stk (hn S)
  refine { I with stk := put_eq _ _ _, living := by show S.living + 1 = (A.more.living : Int); rw [hl, I.living]; omega, lmax := by rw [hl]; exact h, pgs := ?_, page := ?_, ctx := ?_, nmd := ?_ }
  · obtain ⟨h1, h2, h3, b, L', h4, h5, h6⟩ := I.pgs
    exact ⟨h1, h2, h3, b, L', h4, keep _ _ h5 (by simp), h6⟩
  · intro p hp
    obtain ⟨P, fl, cb, cl, hP⟩ := I.page p hp
    have hP := hP.mono (T' := put T sb (.stk { S with living := S.living + 1 })) (fun P h => keep _ _ h (by simp)) (fun b L h => keep _ _ h (by simp)) (fun b L h => keep _ _ h (by simp))
    refine ⟨P, fl, cb, cl, { hP with fr := fun i F id h h' => ?_, below := fun id h => (hP.below id h).like (A' := A.more) rfl }⟩
    obtain ⟨a, ka⟩ := hP.fr i F id h h'
    exact ⟨a, { ka with }⟩
  · intro id c hc
    obtain ⟨C, a, k⟩ := I.ctx id c hc
    refine ⟨C, a, { k with ctx := keep _ _ k.ctx (by simp), lone := fun h1 h2 => ?_ }⟩
    obtain ⟨g1, g2, g3, g4, g5, g6, g7, g8⟩ := k.lone h1 h2
    exact ⟨g1, g2, g3, g4, g5, g6.mono fun b L h => keep _ _ h (by simp), g7.mono fun b L h => keep _ _ h (by simp), g8.like (A' := A.more) rfl⟩
  · obtain ⟨h1, h2, h3, h4⟩ := I.nmd
    exact ⟨h1, h2, h3, h4.imp (fun h => h) fun ⟨b, L', k1, k2, k3, k4⟩ => ⟨b, L', k1, keep _ _ k2 (by simp), k3, k4⟩⟩
theorem eff_alive {A : St} {i j : Nat} (h : A.eff i = some j) : A.alive j = true := by
  unfold St.eff at h
  split at h
  · split at h
    · split at h
      · rename_i hj
        rw [Option.some.injEq] at h
        subst h; exact hj
      · cases h
    · cases h
  · cases h
theorem St.Fit.born {A : St} (h : A.Fit) {m : Int} {sl : List Int} {n : Nat} : ({ A with acts := A.acts ++ [⟨m, sl, [], n, A.active, true⟩], active := some A.acts.length } : St).Fit := by
  have hne : ∀ j, A.alive j = true → j ≠ A.acts.length := fun j hj => alive_ne hj
  have heff : ∀ i, i ≠ A.acts.length → ({ A with acts := A.acts ++ [⟨m, sl, [], n, A.active, true⟩], active := some A.acts.length } : St).eff i = A.eff i := fun i hi => born_eff (A := A) (a := ⟨m, sl, [], n, A.active, true⟩) h.snd hi
  have heffN : ({ A with acts := A.acts ++ [⟨m, sl, [], n, A.active, true⟩], active := some A.acts.length } : St).eff A.acts.length = A.active := born_effN (A := A) (a := ⟨m, sl, [], n, A.active, true⟩) (fun j hj => h.act j hj)
  have hold : ∀ i, i ≠ A.acts.length → Acc (fun j i => ({ A with acts := A.acts ++ [⟨m, sl, [], n, A.active, true⟩], active := some A.acts.length } : St).eff i = some j) i := by
    intro i hi
    induction h.acy i with
    | intro i _ ih =>
      refine ⟨_, fun j hj => ?_⟩
      rw [heff i hi] at hj
      exact ih j hj (hne j (eff_alive hj))
  refine ⟨fun k a j ha hj => ?_, fun k hk => ?_, h.extra, fun i => ?_⟩
  rotate_left 2
  · by_cases e : i = A.acts.length
    · subst e
      refine ⟨_, fun j hj => ?_⟩
      rw [heffN] at hj
      exact hold j (hne j (h.act j hj))
    · exact hold i e
  · simp only [List.length_append, List.length_singleton]
    simp only at ha
    rcases Nat.lt_or_ge k A.acts.length with hk | hk
    · rw [List.getElem?_append_left hk] at ha
      have := h.snd k a j ha hj
      omega
    · have hlt := get_lt ha
      simp only [List.length_append, List.length_singleton] at hlt
      have : k = A.acts.length := by omega
      subst this
      rw [List.getElem?_append_right (Nat.le_refl _), Nat.sub_self] at ha
      simp only [List.getElem?_cons_zero, Option.some.injEq] at ha
      subst ha
      obtain ⟨b, hb, _⟩ := alive_lt (h.act j hj)
      have := get_lt hb
      omega
  · simp only [Option.some.injEq] at hk
    subst hk
    unfold St.alive
    simp only
    rw [List.getElem?_append_right (Nat.le_refl _), Nat.sub_self]; rfl
/-- From where the page is chosen on. -/
theorem call_lay {w0 : World} {T0 : Hp} (C : Tr en w0 T0 w T) (hfit : A.Fit) (I : Inv T sb S A.more G) {p base cb : Nat} {P : Pg} {fl : List Fr} {cl : List Int} (hp : p ∈ G.pl) (hP : PgOk T A.more G.cx p (G.fid p) P fl cb cl) (htop : topOf fl = base) {s : Sl} {m : Int} {ls : List Int} {n : Nat} (hs : Away T w s ls)
    (hfits : base + 4 + ls.length + n ≤ A.cells) (hsn : match (G.fid p).getLast? with | some j => A.active = some j | none => Sn A.more G.cx P.below A.active) {Q : Int → World → Prop}
    (hq : ∀ w' T', Tr en w0 T0 w' T' → Hs T' sb { A with acts := A.acts ++ [⟨m, ls, [], n, A.active, true⟩], active := some A.acts.length } → Q 0 w') :
    Ok (bnd (f32_frames_page_lay (pt (some p)) m s (Sl.mk none 0 0) (n : Int) none) fun r => bnd (f33_frames_Stack_use (pt (some sb)) (pt (some p))) fun _ => ret (0 : Int)) w Q := by
  have hlen : s.len = ls.length := by have := hs.1.1; simpa using this
  have hcm : A.cells ≤ 4096 := I.cmax
  have hsm : ∀ F ∈ fl, F.Small := by
    intro F' hm
    obtain ⟨j, hj, rfl⟩ := List.getElem_of_mem hm
    have hjd : (G.fid p)[j]? = some ((G.fid p)[j]'(by have := hP.cnt; omega)) := List.getElem?_eq_getElem _
    obtain ⟨b, hb'⟩ := hP.fr j _ _ (List.getElem?_eq_getElem hj) hjd
    exact hb'.small I.cmax
  have hfl : fl.length ≤ 50000 := by
    -- each frame takes four cells
    have key : ∀ (i : Nat) F, fl[i]? = some F → (4 * i : Int) ≤ F.base := by
      intro i
      induction i with
      | zero => intro F hF; rw [hP.first F hF]; omega
      | succ i ih =>
        intro F hF
        have hi : i < fl.length := by have := get_lt hF; omega
        have h1 := ih _ (List.getElem?_eq_getElem hi)
        have h2 := hP.next i _ F (List.getElem?_eq_getElem hi) hF
        obtain ⟨s1, s2, s3, s4⟩ := hsm _ (List.getElem_mem hi)
        rw [h2]
        unfold Fr.fin
        omega
    rcases Nat.lt_or_ge 50000 fl.length with h | h
    · have hF := List.getElem?_eq_getElem h
      have := key 50000 _ hF
      obtain ⟨s1, _⟩ := hsm _ (List.getElem_mem h)
      omega
    · exact h
  refine ok_tcall C (lay_spec (n := A.cells) (base := base) (room := n) (c := none) (ls := ls) (lt := []) C.th hP.page hP.cells hP.has hP.cll hcm hP.frames hfl hsm htop hfits (Nat.zero_le _) hlen rfl (fun w' T' C' _ => (hs.step C').1) (fun w' T' _ _ => arr_nil _ _)) ?_
  rintro _ w6 T5 C ⟨s', cl', l1, l2, l3, l4, l5, l6, l7, l8⟩
  have I5 := I.born (T2 := T5) (P := P) (a := ⟨m, ls, [], n, A.active, true⟩) hfit.snd (Nat.succ_pos _) hp hP htop rfl rfl (fun j hj => hfit.act j hj) hfits hsn (fun b o h n1 n2 n3 => l8 b o h n1 n2 n3) l1 l2 l3 l4 l5 l6
  refine ok_tcall C (use_spec C.th I5 (p := p) hp) ?_
  rintro _ w7 T6 C ⟨S6, I6, t1, t2⟩
  refine ok_ret.2 (hq w7 T6 C ⟨hfit.born, S6, G.born p A.acts.length, I6.like rfl rfl rfl rfl ?_, ?_⟩)
  · have := hfit.extra; simp [St.born, St.more, this]
  · refine acv_top t1 t2 hp ?_ ?_
    · show St.alive _ _ = true
      exact born_aliveN (A := A) (a := ⟨m, ls, [], n, A.active, true⟩)
    · show (bornF G.fid p A.acts.length p).getLast? = _
      unfold bornF
      rw [if_pos rfl]; simp
theorem call_spec (h : Th en w T) (hs : Hs T sb A) (m : Int) {s : Sl} {ls : List Int} (hsl : Away T w s ls) (hll : ls.length ≤ 4294967296) (n : Int) (hn : -9223372036854775808 ≤ n ∧ n ≤ 9223372036854775807) : Sp (f8_frames_Stack_Call (pt (some sb)) m s n) w T fun r _ T' => r = (A.call m ls n).1 ∧ Hs T' sb (A.call m ls n).2 := by
  unfold f8_frames_Stack_Call St.call
  have C := Tr.refl h
  have hlen : s.len = ls.length := by have := hsl.1.1; simpa using this
  have hs0 := hs
  obtain ⟨hfit, S, G, I, hA⟩ := hs
  have hcm := I.cmax
  have hcells := I.cells
  refine ok_bnd.2 (ok_mono (Q := fun (b : Bool) w' => b = decide (n < 0 ∨ n > A.cells) ∧ w' = w) ?_ ?_)
  · by_cases h0 : n < 0
    · exact ok_true (by simpa using h0) (ok_ret.2 ⟨by simp [h0], rfl⟩)
    · refine ok_false (by simpa using h0) ?_
      refine ok_drfP ?_
      refine ok_tld C I.stk (x := S.cells) rfl ?_
      refine ok_ret.2 ⟨?_, rfl⟩
      rw [hcells]; simp [h0]
  rintro _ w ⟨rfl, rfl⟩
  refine ok_bnd.2 (ok_mono (Q := fun (b : Bool) w' => b = decide (n < 0 ∨ n > A.cells ∨ (ls.length : Int) + n + 4 > A.cells) ∧ w' = w) ?_ ?_)
  · by_cases h0 : n < 0 ∨ n > A.cells
    · exact ok_true (by simpa using h0) (ok_ret.2 ⟨by rcases h0 with h0 | h0 <;> simp [h0], rfl⟩)
    · refine ok_false (by simpa using h0) ?_
      refine ok_drfP ?_
      refine ok_tld C I.stk (x := S.cells) rfl ?_
      refine ok_ret.2 ⟨?_, rfl⟩
      have h1 : ¬ n < 0 := fun h => h0 (.inl h)
      have h2 : ¬ n > A.cells := fun h => h0 (.inr h)
      rw [hcells, hlen, wrapI_in (n := (ls.length : Int) + n) (by omega), wrapI_in (by omega)]
      simp [h1, h2]
  rintro _ w ⟨rfl, rfl⟩
  by_cases h0 : n < 0 ∨ n > A.cells ∨ (ls.length : Int) + n + 4 > A.cells
  · rw [if_pos h0]
    exact ok_true (by simpa using h0) (ok_ret.2 ⟨T, C, rfl, hs0⟩)
  rw [if_neg h0]
  refine ok_false (by simpa using h0) ?_
  refine ok_tdraw C fun w1 C => ?_
  refine ok_drfP ?_
  refine ok_tld C I.stk (x := S.living) rfl ?_
  refine ok_drfP ?_
  refine ok_tld C I.stk (x := S.most) rfl ?_
  have hlv := I.living; have hms := I.most; have hmm := I.mmax
  by_cases h1 : A.most ≤ A.living
  · rw [if_pos h1]
    exact ok_true (by rw [hlv, hms]; simpa using h1) (ok_ret.2 ⟨T, C, rfl, hs0⟩)
  rw [if_neg h1]
  refine ok_false (by rw [hlv, hms]; simpa using h1) ?_
  refine ok_drfP ?_
  refine ok_tld C I.stk (x := S.living) rfl ?_
  refine ok_drfP ?_
  have ew : IntKind.wrap .i64 (S.living + 1) = S.living + 1 := by rw [wrapI_in (by omega)]
  rw [ew]
  refine ok_twr C (.stk { S with living := S.living + 1 }) I.stk (by simp [en, Sk.en]) rfl rfl fun w2 C => ?_
  have I1 := I.more (by omega)
  obtain ⟨nn, rfl⟩ : ∃ k : Nat, n = k := ⟨n.toNat, by omega⟩
  rw [Int.toNat_natCast]
  have hA1 : Acv { S with living := S.living + 1 } A.more G A.active := by
    cases ha : A.active with
    | none => rw [ha] at hA; exact hA
    | some k => rw [ha] at hA; exact hA
  generalize put T sb (.stk { S with living := S.living + 1 }) = T1 at C I1
  generalize ({ S with living := S.living + 1 } : Sk) = S1 at I1 hA1
  clear I hA hs0 hlv hms ew hcells
  cases ha : A.active with
  | none =>
    rw [ha] at hA1
    refine ok_trd C (active_none C.th I1 hA1) fun w3 C => ?_
    simp only [bnd_as, bnd_ret]
    refine ok_tord C fun o w4 C => ?_
    refine ok_bnd.2 (ok_true rfl (ok_ret.2 ?_))
    refine ok_bnd.2 (ok_true rfl ?_)
    refine ok_bnd.2 (ok_false rfl (ok_ret.2 ?_))
    rw [← ha] at hA1
    refine ok_tcall C (free_spec C.th I1 hA1) ?_
    rintro _ w5 T3 C ⟨p, S3, G3, hp, rfl, hpl, hfid, ext, hloc, I3, A3⟩
    have hp3 : p ∈ G3.pl := by rw [hpl]; exact hp
    obtain ⟨P, fl, cb, cl, hP⟩ := I3.page p hp3
    refine ok_drfP ?_
    refine ok_twr C (.page { P with below := none }) hP.page (by simp [en, Pg.en]) rfl rfl fun w6 C => ?_
    have I4 := I3.pgPut hp3 (P' := { P with below := none }) hP.page rfl rfl (by rw [hfid]; intro id hid; cases hid)
    have hp4 := put_eq T3 p (.page { P with below := none })
    generalize put T3 p (.page { P with below := none }) = T4 at C I4 hp4
    obtain ⟨P4, fl, cb, cl, hP⟩ := I4.page p hp3
    have : P4 = { P with below := none } := by have := hP.page; rw [hp4, Option.some.injEq, Ob.page.injEq] at this; exact this.symm
    subst this
    have hfl : fl = [] := List.eq_nil_of_length_eq_zero (by rw [hP.cnt, hfid]; rfl)
    subst hfl
    refine ok_ret.2 ?_
    refine call_lay (base := 0) C hfit I4 hp3 hP rfl (hsl.step C) (by omega) (by rw [hfid]; simp only [List.getLast?_nil]; exact ha) ?_
    intro w' T' C' hs'
    rw [ha] at hs'
    exact ⟨T', C', rfl, hs'⟩
  | some k =>
    rw [ha] at hA1
    refine ok_tcall C (active_some C.th I1 hA1) ?_
    rintro _ w3 T2 C ⟨S2, G2, p, P, fb, k1, k2, I2, hp, t1, t2, hlast, hP0, hfa, rfl⟩
    obtain ⟨hpos, hid⟩ := fid_last hlast
    obtain ⟨P', fl, cb, cl, hP⟩ := I2.page p hp
    have : P' = P := by have := hP.page; rw [hP0, Option.some.injEq, Ob.page.injEq] at this; exact this.symm
    subst this
    have hA2 := acv_top t1 t2 hp hA1.1 hlast
    have hsm : ∀ F ∈ fl, F.Small := by
      intro F' hm
      obtain ⟨j, hj, rfl⟩ := List.getElem_of_mem hm
      have hjd : (G2.fid p)[j]? = some ((G2.fid p)[j]'(by have := hP.cnt; omega)) := List.getElem?_eq_getElem _
      obtain ⟨b, hb'⟩ := hP.fr j _ _ (List.getElem?_eq_getElem hj) hjd
      exact hb'.small I2.cmax
    have hfl : (G2.fid p).length = fl.length := hP.cnt.symm
    simp only [bnd_as, bnd_ret]
    refine ok_tord C fun o w4 C => ?_
    have hne : fl ≠ [] := by rintro rfl; simp at hfl; rw [hfl] at hpos; simp at hpos
    have htop : topOf fl = ((fl.getLast hne).fin.toNat : Int) ∧ (fl.getLast hne).fin ≤ A.cells := by
      obtain ⟨s1, s2, s3, s4⟩ := hsm _ (List.getLast_mem hne)
      unfold topOf
      rw [List.getLast?_eq_some_getLast hne]
      have hl : fl[fl.length - 1]? = some (fl.getLast hne) := by rw [List.getLast_eq_getElem, List.getElem?_eq_getElem]
      have hjd : (G2.fid p)[fl.length - 1]? = some k := by rw [← hfl]; exact hid
      obtain ⟨b, hb'⟩ := hP.fr _ _ _ hl hjd
      refine ⟨?_, hb'.fin⟩
      simp only
      unfold Fr.fin
      omega
    obtain ⟨ht1, ht2⟩ := htop
    have hts : ∀ w', Tr en w' T2 w' T2 → Sp (f29_frames_page_top (pt (some p))) w' T2 fun r _ T' => T' = T2 ∧ r = topOf fl := fun w' C' => top_spec C'.th hP0 hP.frames hsm
    have hbase : (fl.getLast hne).fin.toNat ≤ A.cells := by have : (fl.getLast hne).fin ≤ (A.cells : Int) := ht2; omega
    generalize (fl.getLast hne).fin.toNat = base at ht1 hbase
    refine ok_bnd.2 (ok_false rfl ?_)
    refine ok_drfP ?_
    refine ok_tld C I2.stk (x := S2.cells) rfl ?_
    refine ok_trd C (hts _ (Tr.refl C.th)) fun w5 C => ?_
    refine ok_tchk C I2.stk rfl ?_
    refine ok_ret.2 ?_
    have hc2 : S2.cells = A.cells := I2.cells
    rw [ht1, hc2, hlen, wrapI_in (n := (base : Int) + 4) (by omega), wrapI_in (n := (base : Int) + 4 + ls.length) (by omega), wrapI_in (by omega)]
    by_cases hft : (base : Int) + 4 + ls.length + nn > A.cells
    · refine ok_bnd.2 (ok_true (by simpa using hft) ?_)
      refine ok_bnd.2 (ok_true rfl ?_)
      refine ok_drfP ?_
      refine ok_tld C hP0 (x := P'.frames) rfl ?_
      have hlenf := hP.frames.len
      have em : IntKind.wrap .i64 ((P'.frames.len : Int) - 1) = (((G2.fid p).length - 1 : Nat) : Int) := by
        have := hP.frames.le; have := hP.frames.max
        have hml : maxLen = 9223372036854775807 := by decide
        rw [wrapI_in (by omega)]; omega
      rw [em]
      refine ok_tcall C (marry_spec C.th I2 hp hid) ?_
      rintro _ w6 T3 C ⟨c, rfl, I3, hext, hk3⟩
      refine ok_ret.2 ?_
      have hA3 : Acv S2 A.more { G2 with cx := cxu G2.cx k c } (some k) := acv_top t1 t2 hp hA1.1 hlast
      refine ok_tcall C (free_spec C.th I3 hA3) ?_
      rintro _ w7 T4 C ⟨q, S4, G4, hq, rfl, hpl, hfid, ext, hloc, I4, A4⟩
      have hq4 : q ∈ G4.pl := by rw [hpl]; exact hq
      obtain ⟨Q4, fl4, cb4, cl4, hQ⟩ := I4.page q hq4
      refine ok_drfP ?_
      refine ok_twr C (.page { Q4 with below := some c }) hQ.page (by simp [en, Pg.en]) rfl rfl fun w8 C => ?_
      have I5 := I4.pgPut hq4 (P' := { Q4 with below := some c }) hQ.page rfl rfl (by rw [hfid]; intro id hid; cases hid)
      have hp5 := put_eq T4 q (.page { Q4 with below := some c })
      generalize put T4 q (.page { Q4 with below := some c }) = T5 at C I5 hp5
      obtain ⟨Q5, fl5, cb5, cl5, hQ5⟩ := I5.page q hq4
      have : Q5 = { Q4 with below := some c } := by have := hQ5.page; rw [hp5, Option.some.injEq, Ob.page.injEq] at this; exact this.symm
      subst this
      have hfl5 : fl5 = [] := List.eq_nil_of_length_eq_zero (by rw [hQ5.cnt, hfid]; rfl)
      subst hfl5
      refine ok_ret.2 ?_
      refine call_lay (base := 0) C hfit I5 hq4 hQ5 rfl (hsl.step C) (by omega) (by
        rw [hfid]
        exact ⟨k, ext _ _ (cxu_eq _ _ _), by rw [ha, hA1.1]; rfl⟩) ?_
      intro w' T' C' hs'
      rw [ha] at hs'
      exact ⟨T', C', rfl, hs'⟩
    · refine ok_bnd.2 (ok_false (by simpa using hft) (ok_ret.2 ?_))
      refine call_lay (base := base) C hfit I2 hp hP ht1 (hsl.step C) (by omega) (by rw [hlast]; exact ha) ?_
      intro w' T' C' hs'
      rw [ha] at hs'
      exact ⟨T', C', rfl, hs'⟩
end Go.Proofs.Ytckfidopkajpaaa
