/-
  Parts of the proof: FBc, FBd, FBe. It states what the functions do; no further condition.
-/
import Derived.Test.YtckfidopkajpaaaFBb
set_option linter.unusedVariables false
set_option linter.unusedSimpArgs false
/-
  An act ends.
-/
namespace Go.Proofs.Ytckfidopkajpaaa
set_option linter.unusedVariables false
open Go.Sh Go.RowKit
set_option maxRecDepth 100000
variable {w : World} {T : Hp} {sb : Nat} {S : Sk} {A : St} {G : Gh}
def drp (k : Nat) (e : Option Nat) : Option Nat := if e = some k then none else e
theorem die_def {A : St} {k : Nat} {a : Ac} (h : A.acts[k]? = some a) : A.die k = A.turn k { a with alive := false } := by
  unfold St.die; rw [h]
theorem die_self {A : St} {k : Nat} {a : Ac} (h : A.acts[k]? = some a) : (A.die k).acts[k]? = some { a with alive := false } := by
  rw [die_def h]; exact turn_at h
theorem die_ne {A : St} {k j : Nat} (h : j ≠ k) : (A.die k).acts[j]? = A.acts[j]? := by
  cases ha : A.acts[k]? with
  | none => unfold St.die; rw [ha]
  | some a => rw [die_def ha]; exact turn_ne h
theorem die_alive_ne {A : St} {k j : Nat} (h : j ≠ k) : (A.die k).alive j = A.alive j := by
  unfold St.alive; rw [die_ne h]
theorem die_alive_self {A : St} {k : Nat} : (A.die k).alive k = false := by
  cases ha : A.acts[k]? with
  | none => unfold St.die; rw [ha]; simp only; unfold St.alive; rw [ha]
  | some a => unfold St.alive; rw [die_self ha]
theorem die_sender {A : St} {k j : Nat} : ((A.die k).acts[j]?).map (·.sender) = (A.acts[j]?).map (·.sender) := by
  by_cases e : j = k
  · subst e
    cases ha : A.acts[j]? with
    | none => unfold St.die; rw [ha]; simp only; rw [ha]
    | some a => rw [die_self ha]; rfl
  · rw [die_ne e]
theorem eff_def (A : St) (j : Nat) : A.eff j = match (A.acts[j]?).map (·.sender) with
    | some (some i) => if A.alive i then some i else none
    | _ => none := by
  unfold St.eff
  cases A.acts[j]? with
  | none => rfl
  | some a =>
    simp only [Option.map_some]
    cases a.sender <;> rfl
theorem die_eff {A : St} {k j : Nat} : (A.die k).eff j = drp k (A.eff j) := by
  rw [eff_def, eff_def, die_sender]
  cases (A.acts[j]?).map (·.sender) with
  | none => rfl
  | some o => cases o with
    | none => rfl
    | some i =>
      simp only
      by_cases e : i = k
      · subst e
        rw [die_alive_self]
        unfold drp
        cases A.alive i <;> simp
      · rw [die_alive_ne e]
        unfold drp
        split <;> simp [e]
theorem count_set (p : Ac → Bool) : ∀ (l : List Ac) (k : Nat) (a b : Ac), l[k]? = some a → p a = true → p b = false → (l.set k b).countP p + 1 = l.countP p
  | [], k, a, b, h, _, _ => by simp at h
  | c :: l, 0, a, b, h, ha, hb => by
    simp only [List.getElem?_cons_zero, Option.some.injEq] at h
    subst h
    simp [List.countP_cons, ha, hb]
  | c :: l, k + 1, a, b, h, ha, hb => by
    have := count_set p l k a b (by simpa using h) ha hb
    simp only [List.set_cons_succ, List.countP_cons]
    omega
theorem die_living {A : St} {k : Nat} {a : Ac} (h : A.acts[k]? = some a) (hal : a.alive = true) : (A.die k).living + 1 = A.living := by
  rw [die_def h]
  unfold St.living St.turn
  have := count_set (·.alive) A.acts k a { a with alive := false } h hal rfl
  simp only at this ⊢
  omega
theorem Sn.die {cx : Nat → Option Nat} {c e : Option Nat} (h : Sn A cx c e) (k : Nat) (hk : A.alive k = true) : Sn (A.die k) cx c (drp k e) := by
  cases c with
  | none => have h : e = none := h; subst h; rfl
  | some c =>
    obtain ⟨j, h1, h2⟩ := h
    refine ⟨j, h1, ?_⟩
    subst h2
    by_cases e : j = k
    · subst e
      rw [die_alive_self, hk]
      unfold drp; simp
    · rw [die_alive_ne e]
      unfold drp
      split <;> simp [e]
theorem Inv.die (I : Inv T sb S A G) {k : Nat} {a : Ac} (ha : A.acts[k]? = some a) (hal : a.alive = true) {p n : Nat} {P : Pg} {S' : Sk} {T2 : Hp} (hp : p ∈ G.pl) (hP : T p = some (.page P)) (hn : n ≤ (G.fid p).length) (hon : ∀ (i : Nat) id, n ≤ i → (G.fid p)[i]? = some id → id = k) (hlo : G.loc k = none ∨ ∃ i, G.loc k = some (p, i) ∧ n ≤ i)
    (hS : S'.pages = S.pages ∧ S'.cells = S.cells ∧ S'.most = S.most ∧ S'.living = S.living - 1 ∧ S'.named = S.named)
    (k1 : ∀ b o, T b = some o → b ≠ p → b ≠ sb → (∀ c, G.cx k = some c → b ≠ c) → T2 b = some o) (k2 : T2 p = some (.page { P with frames := ⟨P.frames.a, n, P.frames.cap⟩ })) (k3 : T2 sb = some (.stk S'))
    (k4 : ∀ c X, G.cx k = some c → T c = some (.ctx X) → ∃ X', T2 c = some (.ctx X') ∧ X'.dead = true ∧ X'.number = X.number) : Inv T2 sb S' (A.die k) (G.cut p n) := by
  have hka : A.alive k = true := by unfold St.alive; rw [ha]; exact hal
  have hcell : (A.die k).cells = A.cells := by rw [die_def ha]; rfl
  have hmost : (A.die k).most = A.most := by rw [die_def ha]; rfl
  have hnamed : (A.die k).named = A.named := by rw [die_def ha]; rfl
  have hnum : (A.die k).num = A.num := by funext j; unfold St.num; rw [hnamed]
  have hlv := die_living ha hal
  obtain ⟨s1, s2, s3, s4, s5⟩ := hS
  -- what is neither page nor context nor the stack's record stays
  have keep : ∀ b o, T b = some o → (∀ P, o ≠ .page P) → (∀ C, o ≠ .ctx C) → (∀ S, o ≠ .stk S) → T2 b = some o := fun b o h n1 n2 n3 => k1 b o h (by rintro rfl; rw [hP, Option.some.injEq] at h; exact n1 P h.symm) (by rintro rfl; rw [I.stk, Option.some.injEq] at h; exact n3 S h.symm) (by
    rintro c hc rfl
    obtain ⟨C, b, kc⟩ := I.ctx _ _ hc
    have := kc.ctx
    rw [h, Option.some.injEq] at this
    exact n2 C this)
  have kpage : ∀ q Q, q ≠ p → T q = some (.page Q) → T2 q = some (.page Q) := fun q Q hq h => k1 q _ h hq (by rintro rfl; rw [I.stk] at h; cases h) (by
    rintro c hc rfl
    obtain ⟨C, b, kc⟩ := I.ctx _ _ hc
    have := kc.ctx
    rw [h] at this; cases this)
  have hnk : ∀ (q i id : Nat), q ∈ G.pl → (G.fid q)[i]? = some id → (q = p → i < n) → id ≠ k := by
    rintro q i id hq hid hqp rfl
    have := I.l1 q i id hq hid
    rcases hlo with h | ⟨j, h1, h2⟩
    · rw [this] at h; cases h
    · rw [this, Option.some.injEq, Prod.mk.injEq] at h1
      obtain ⟨rfl, rfl⟩ := h1
      have := hqp rfl
      omega
  have hlc : (G.cut p n).loc k = none := by
    rcases hlo with h | ⟨j, h1, h2⟩
    · exact cutL_none h
    · exact cutL_gone h1 h2
  refine { stk := k3, cells := by rw [s2, hcell]; exact I.cells, cmin := by rw [hcell]; exact I.cmin, cmax := by rw [hcell]; exact I.cmax, most := by rw [s3, hmost]; exact I.most, mmax := by rw [hmost]; exact I.mmax, living := by rw [s4, I.living]; omega, lmax := by rw [hmost]; have := I.lmax; omega, pgs := ?_, some_ := I.some_, nodup := I.nodup, page := ?_, l1 := ?_, l2 := ?_, ctx := ?_, inj := I.inj, here := ?_, nmd := ?_, nctx := by rw [hnamed]; exact I.nctx, nnd := by rw [hnamed]; exact I.nnd }
  · rw [s1]
    obtain ⟨g1, g2, g3, b, L', g4, g5, g6⟩ := I.pgs
    exact ⟨g1, g2, g3, b, L', g4, keep _ _ g5 (by simp) (by simp) (by simp), g6⟩
  · intro q hq
    obtain ⟨Q, fl, cb, cl, hQ⟩ := I.page q hq
    by_cases e : q = p
    · subst e
      have : Q = P := by have := hQ.page; rw [hP, Option.some.injEq, Ob.page.injEq] at this; exact this.symm
      subst this
      have hfi : (G.cut q n).fid q = (G.fid q).take n := if_pos rfl
      rw [hfi]
      have hcnt := hQ.cnt
      have hfs : Fs T2 q ⟨Q.frames.a, n, Q.frames.cap⟩ (fl.take n) := by
        have f1 := hQ.frames.len; have f2 := hQ.frames.le; have f3 := hQ.frames.max
        refine ⟨by simp only [List.length_take]; omega, by simp only; omega, f3, ?_⟩
        rcases hQ.frames.at_ with h1 | ⟨fb, L, h1, h2, h3, h4⟩
        · exact .inl h1
        · refine .inr ⟨fb, L, h1, keep _ _ h2 (by simp) (by simp) (by simp), h3, ?_⟩
          rw [List.length_take]
          have := congrArg (List.take n) h4
          rw [List.take_take] at this
          rw [← this]
      refine ⟨_, fl.take n, cb, cl, { page := k2, cells := hQ.cells.trans (by rw [hcell]), has := keep _ _ hQ.has (by simp) (by simp) (by simp), cll := hQ.cll.trans hcell.symm, frames := hfs, cnt := by rw [List.length_take, List.length_take]; omega, fr := ?_, first := ?_, next := ?_, below := ?_, link := ?_ }⟩
      · intro i F id hF hid
        have hi := get_lt hid
        rw [List.length_take] at hi
        rw [List.getElem?_take_of_lt (by omega)] at hF hid
        obtain ⟨b, kb⟩ := hQ.fr i F id hF hid
        have := hnk q i id hq hid (fun _ => by omega)
        exact ⟨b, { kb with act := by rw [die_ne this]; exact kb.act, fin := by rw [hcell]; exact kb.fin }⟩
      · intro F hF
        have hi := get_lt hF
        rw [List.length_take] at hi
        rw [List.getElem?_take_of_lt (by omega)] at hF
        exact hQ.first F hF
      · intro i F1 F2 h1 h2
        have hi := get_lt h2
        rw [List.length_take] at hi
        rw [List.getElem?_take_of_lt (by omega)] at h1 h2
        exact hQ.next i F1 F2 h1 h2
      · intro id hid
        have hi := get_lt hid
        rw [List.length_take] at hi
        rw [List.getElem?_take_of_lt (by omega)] at hid
        rw [die_eff]
        exact (hQ.below id hid).die k hka
      · intro i x y hx hy
        have hi := get_lt hy
        rw [List.length_take] at hi
        rw [List.getElem?_take_of_lt (by omega)] at hx hy
        have := hnk q i x hq hx (fun _ => by omega)
        rw [die_eff, hQ.link i x y hx hy]
        unfold drp
        rw [if_neg (by simpa using this)]
    · have hfi : (G.cut p n).fid q = G.fid q := if_neg e
      rw [hfi]
      have hQ' := hQ.mono (T' := T2) (fun P h => kpage _ _ e h) (fun b L h => keep _ _ h (by simp) (by simp) (by simp)) (fun b L h => keep _ _ h (by simp) (by simp) (by simp))
      refine ⟨Q, fl, cb, cl, { page := hQ'.page, cells := hQ'.cells.trans (by rw [hcell]), has := hQ'.has, cll := hQ'.cll.trans hcell.symm, frames := hQ'.frames, cnt := hQ'.cnt, fr := fun i F id hF hid => ?_, first := hQ'.first, next := hQ'.next, below := fun id hid => by rw [die_eff]; exact (hQ.below id hid).die k hka, link := fun i x y hx hy => ?_ }⟩
      · obtain ⟨b, kb⟩ := hQ.fr i F id hF hid
        have := hnk q i id hq hid (fun h => absurd h e)
        exact ⟨b, { kb with act := by rw [die_ne this]; exact kb.act, fin := by rw [hcell]; exact kb.fin }⟩
      · have := hnk q i x hq hx (fun h => absurd h e)
        rw [die_eff, hQ.link i x y hx hy]
        unfold drp
        rw [if_neg (by simpa using this)]
  · intro q i id hq hid
    by_cases e : q = p
    · subst e
      rw [show (G.cut q n).fid q = (G.fid q).take n from if_pos rfl] at hid
      have hi := get_lt hid
      rw [List.length_take] at hi
      rw [List.getElem?_take_of_lt (by omega)] at hid
      exact cutL_stay (I.l1 q i id hq hid) (by omega)
    · rw [show (G.cut p n).fid q = G.fid q from if_neg e] at hid
      exact cutL_stay (I.l1 q i id hq hid) (by simp [e])
  · intro id q i h
    obtain ⟨h1, h2⟩ := cutL_some h
    obtain ⟨g1, g2⟩ := I.l2 id q i h1
    refine ⟨g1, ?_⟩
    by_cases e : q = p
    · subst e
      rw [show (G.cut q n).fid q = (G.fid q).take n from if_pos rfl, List.getElem?_take_of_lt (by omega)]; exact g2
    · rw [show (G.cut p n).fid q = G.fid q from if_neg e]; exact g2
  · intro id c hc
    replace hc : G.cx id = some c := hc
    obtain ⟨D, b, kd⟩ := I.ctx id c hc
    by_cases e : id = k
    · subst e
      obtain ⟨X', x1, x2, x3⟩ := k4 c D hc kd.ctx
      refine ⟨X', _, { ctx := x1, act := die_self ha, dead := by rw [x2]; rfl, number := by rw [x3, hnum]; exact kd.number, framed := fun q i h => ?_, lone := fun h _ => (by cases h) }⟩
      rw [hlc] at h; cases h
    · have hcc : ∀ c', G.cx k = some c' → c ≠ c' := by rintro c' hc' rfl; exact e (I.inj _ _ _ hc hc')
      refine ⟨D, b, { ctx := k1 _ _ kd.ctx (by rintro rfl; have := kd.ctx; rw [hP] at this; cases this) (by rintro rfl; have := kd.ctx; rw [I.stk] at this; cases this) hcc, act := by rw [die_ne e]; exact kd.act, dead := kd.dead, number := by rw [hnum]; exact kd.number, framed := fun q i h => kd.framed q i (cutL_some h).1, lone := fun h1 h2 => ?_ }⟩
      have hl : G.loc id = none := by
        cases hg : G.loc id with
        | none => rfl
        | some qi =>
          obtain ⟨q, i⟩ := qi
          by_cases hqi : q = p ∧ n ≤ i
          · obtain ⟨rfl, hi⟩ := hqi
            exact absurd (hon i id hi (I.l2 id q i hg).2) e
          · have := cutL_stay hg hqi
            rw [show (G.cut p n).loc id = cutL G.loc p n id from rfl, this] at h2; cases h2
      obtain ⟨g1, g2, g3, g4, g5, g6, g7, g8⟩ := kd.lone h1 hl
      exact ⟨g1, g2, g3, g4, by rw [hcell]; exact g5, g6.mono fun b L h => keep _ _ h (by simp) (by simp) (by simp), g7.mono fun b L h => keep _ _ h (by simp) (by simp) (by simp), by rw [die_eff]; exact g8.die k hka⟩
  · intro id h
    have hne : id ≠ k := by rintro rfl; rw [die_alive_self] at h; cases h
    rw [die_alive_ne hne] at h
    rcases I.here id h with h1 | h1
    · left
      cases hg : G.loc id with
      | none => exact absurd hg h1
      | some qi =>
        obtain ⟨q, i⟩ := qi
        by_cases hqi : q = p ∧ n ≤ i
        · obtain ⟨rfl, hi⟩ := hqi
          exact absurd (hon i id hi (I.l2 id q i hg).2) hne
        · rw [show (G.cut p n).loc id = cutL G.loc p n id from rfl, cutL_stay hg hqi]; simp
    · exact .inr h1
  · rw [s5, hnamed]
    obtain ⟨g1, g2, g3, g4⟩ := I.nmd
    exact ⟨g1, g2, g3, g4.imp (fun h => h) fun ⟨b, L', k1', k2', k3', k4'⟩ => ⟨b, L', k1', keep _ _ k2' (by simp) (by simp) (by simp), k3', k4'⟩⟩
end Go.Proofs.Ytckfidopkajpaaa

/-
  A context's sender; a context ends.
-/
namespace Go.Proofs.Ytckfidopkajpaaa
set_option linter.unusedVariables false
open Go.Sh Go.RowKit
set_option maxRecDepth 100000
variable {w : World} {T : Hp} {sb : Nat} {S : Sk} {A : St} {G : Gh}
/-- A context of whom it is. -/
def Cn (cx : Nat → Option Nat) (c e : Option Nat) : Prop := match e with
  | none => c = none
  | some j => ∃ b, c = some b ∧ cx j = some b
theorem alive_act {A : St} {k : Nat} {a : Ac} (ha : A.acts[k]? = some a) (hal : a.alive = true) : A.alive k = true := by
  unfold St.alive; rw [ha]; exact hal
theorem Acv.ext {cx' : Nat → Option Nat} {e : Option Nat} (h : Acv S A G e) (hx : ∀ k b, G.cx k = some b → cx' k = some b) : Acv S A { G with cx := cx' } e := by
  cases e with
  | none => exact h
  | some k =>
    obtain ⟨h1, h2⟩ := h
    refine ⟨h1, h2.imp id ?_⟩
    rintro ⟨t, c, h3, h4, h5⟩
    exact ⟨t, c, h3, hx _ _ h4, h5⟩
theorem from_spec (h : Th en w T) (I : Inv T sb S A G) {c id : Nat} (hcx : G.cx id = some c) (hal : A.alive id = true) :
    Sp (f37_frames_context_from (pt (some c))) w T fun r _ T' => ∃ cx' c', (∀ k b, G.cx k = some b → cx' k = some b) ∧ Inv T' sb S A { G with cx := cx' } ∧ r = pt c' ∧ Cn cx' c' (A.eff id) ∧ Kp T T' := by
  unfold f37_frames_context_from
  have C := Tr.refl h
  obtain ⟨X, a, kc⟩ := I.ctx id c hcx
  obtain ⟨a0, ha0, hal0⟩ := alive_lt hal
  have : a0 = a := by have := kc.act; rw [ha0, Option.some.injEq] at this; exact this
  subst this
  refine ok_drfP ?_
  refine ok_tld C kc.ctx (x := pt X.sender) rfl ?_
  refine ok_drfP ?_
  refine ok_tld C kc.ctx (x := pt X.page) rfl ?_
  refine ok_bnd.2 (ok_mono (Q := fun r w' => ∃ T' cx' c', Tr en w T w' T' ∧ (∀ k b, G.cx k = some b → cx' k = some b) ∧ Inv T' sb S A { G with cx := cx' } ∧ r = pt c' ∧ Sn A cx' c' (A.eff id) ∧ Kp T T') ?_ ?_)
  · cases hl : G.loc id with
    | none =>
      obtain ⟨g1, g2, g3, g4, g5, g6, g7, g8⟩ := kc.lone hal0 hl
      rw [g1]
      exact ok_false rfl (ok_ret.2 ⟨T, G.cx, X.sender, C, fun _ _ h => h, I, rfl, g8, Kp.refl T⟩)
    | some pi =>
      obtain ⟨p, i⟩ := pi
      obtain ⟨e1, e2⟩ := kc.framed p i hl
      obtain ⟨hp, hid⟩ := I.l2 id p i hl
      rw [e1]
      refine ok_true rfl ?_
      simp only [bnd_as, bnd_ret]
      refine ok_tord C fun o w3 C => ?_
      refine ok_drfP ?_
      refine ok_tld C kc.ctx (x := pt (some p)) (by rw [← e1]; rfl) ?_
      refine ok_drfP ?_
      refine ok_tld C kc.ctx (x := (i : Int)) (by rw [← e2]; rfl) ?_
      refine ok_tcall C (sender_spec C.th I hp hid) ?_
      rintro r w' T' C ⟨cx', c', h1, h2, h3, h4, h5⟩
      exact ok_ret.2 ⟨T', cx', c', C, h1, h2, h3, h4, h5⟩
  · rintro r w1 ⟨T1, cx', c', C, h1, I1, rfl, h4, h5⟩
    cases c' with
    | none =>
      have h4 : A.eff id = none := h4
      refine ok_bnd.2 (ok_true rfl (ok_ret.2 ?_))
      exact ok_true rfl (ok_ret.2 ⟨T1, C, cx', none, h1, I1, rfl, by rw [h4]; rfl, h5⟩)
    | some b =>
      obtain ⟨j, hj, he⟩ := h4
      obtain ⟨Y, a', kj⟩ := I1.ctx j b hj
      refine ok_bnd.2 (ok_false rfl ?_)
      refine ok_drfP ?_
      refine ok_tld C kj.ctx (x := Y.dead) rfl (ok_ret.2 ?_)
      have hd := kj.dead
      have hja : A.alive j = a'.alive := by unfold St.alive; rw [kj.act]
      cases hb : a'.alive with
      | false =>
        rw [hb] at hd hja
        rw [hja] at he
        exact ok_true hd (ok_ret.2 ⟨T1, C, cx', none, h1, I1, rfl, by rw [he]; rfl, h5⟩)
      | true =>
        rw [hb] at hd hja
        rw [hja] at he
        exact ok_false hd (ok_ret.2 ⟨T1, C, cx', some b, h1, I1, rfl, by rw [he]; exact ⟨b, rfl, hj⟩, h5⟩)
theorem endc_spec (h : Th en w T) (I : Inv T sb S A G) {e : Option Nat} (hA : Acv S A G e) {c k : Nat} {a : Ac} (hcx : G.cx k = some c) (ha : A.acts[k]? = some a) (hal : a.alive = true) :
    Sp (f38_frames_Stack_end (pt (some sb)) (pt (some c))) w T fun _ _ T' => ∃ S' G', Inv T' sb S' (A.die k) G' ∧ (∀ k b, G.cx k = some b → G'.cx k = some b) ∧ (e = none → Acv S' (A.die k) G' none) := by
  unfold f38_frames_Stack_end
  have C := Tr.refl h
  have hml : maxLen = 9223372036854775807 := by decide
  obtain ⟨X, a', kc⟩ := I.ctx k c hcx
  have : a' = a := by have := kc.act; rw [ha, Option.some.injEq] at this; exact this.symm
  subst this
  refine ok_drfP ?_
  refine ok_tld C kc.ctx (x := pt X.page) rfl ?_
  -- the common end
  have fin : ∀ {w1 : World} {T1 T2 : Hp} {S1 : Sk} {G1 : Gh} {p n : Nat} {P : Pg} {X1 : Ct}, Tr en w T w1 T2 → Inv T1 sb S1 A G1 → (∀ k b, G.cx k = some b → G1.cx k = some b) → (e = none → S1.top = none ∧ S1.alone = none) → p ∈ G1.pl → T1 p = some (.page P) → n ≤ (G1.fid p).length → (∀ (i : Nat) id, n ≤ i → (G1.fid p)[i]? = some id → id = k) → (G1.loc k = none ∨ ∃ i, G1.loc k = some (p, i) ∧ n ≤ i) →
      T2 p = some (.page { P with frames := ⟨P.frames.a, n, P.frames.cap⟩ }) → T2 c = some (.ctx X1) → X1.number = X.number → (∀ b o, T1 b = some o → b ≠ p → b ≠ c → T2 b = some o) →
      Ok (bnd (drf (pt (some c))) fun p16 => bnd (wrs (Addr.add p16 1) 0 [.bool true]) fun _ => bnd (drf (pt (some c))) fun p17 => bnd (wrs (Addr.add p17 8) 0 [.pointer none]) fun _ => bnd (drf (pt (some sb))) fun p18 => bnd (ld (.int .i64) (Addr.add p18 6)) fun v19 => bnd (drf (pt (some sb))) fun p20 => bnd (wrs (Addr.add p20 6) 0 [.int .i64 (IntKind.wrap .i64 (v19 - (1 : Int)))]) fun _ => ret ()) w1
        (fun _ w' => ∃ T', Tr en w T w' T' ∧ ∃ S' G', Inv T' sb S' (A.die k) G' ∧ (∀ k b, G.cx k = some b → G'.cx k = some b) ∧ (e = none → Acv S' (A.die k) G' none)) := by
    intro w1 T1 T2 S1 G1 p n P X1 C I1 hext htop hp hP hn hon hlo hp2 hc2 hnum hk
    have hc1 : ∃ D, T1 c = some (.ctx D) ∧ D.number = X.number := by
      obtain ⟨D, b, kd⟩ := I1.ctx k c (hext _ _ hcx)
      exact ⟨D, kd.ctx, kd.number.trans kc.number.symm⟩
    obtain ⟨D, hD, hDn⟩ := hc1
    have hpc : p ≠ c := by rintro rfl; rw [hD] at hP; cases hP
    have hsc : sb ≠ c := by rintro rfl; have := I1.stk; rw [hD] at this; cases this
    have hps : p ≠ sb := by rintro rfl; have := I1.stk; rw [hP] at this; cases this
    have hs2 := hk _ _ I1.stk (Ne.symm hps) hsc
    refine ok_drfP ?_
    refine ok_ctw C { X1 with dead := true } hc2 (by decide) rfl rfl fun w7 C => ?_
    refine ok_drfP ?_
    refine ok_ctw C { X1 with dead := true, sender := none } (put_eq _ _ _) (by decide) rfl rfl fun w8 C => ?_
    rw [put_put] at C
    have hs3 : put T2 c (.ctx { X1 with dead := true, sender := none }) sb = some (.stk S1) := by rw [put_ne _ hsc]; exact hs2
    refine ok_drfP ?_
    refine ok_tld C hs3 (x := S1.living) rfl ?_
    refine ok_drfP ?_
    have hlv := I1.living; have hlm := I1.lmax; have hmm := I1.mmax; have hdl := die_living ha hal
    have ew : IntKind.wrap .i64 (S1.living - 1) = S1.living - 1 := by rw [wrapI_in (by omega)]
    rw [ew]
    refine ok_twr C (.stk { S1 with living := S1.living - 1 }) hs3 (by simp [en, Sk.en]) rfl rfl fun w9 C => ?_
    refine ok_ret.2 ⟨_, C, { S1 with living := S1.living - 1 }, G1.cut p n, ?_, hext, fun he => htop he⟩
    refine I1.die ha hal hp hP hn hon hlo ⟨rfl, rfl, rfl, rfl, rfl⟩ (fun b o h n1 n2 n3 => ?_) ?_ (put_eq _ _ _) (fun c' Y hc' hY => ?_)
    · rw [put_ne _ n2, put_ne _ (n3 c (hext _ _ hcx))]
      exact hk _ _ h n1 (n3 c (hext _ _ hcx))
    · rw [put_ne _ hps, put_ne _ hpc]; exact hp2
    · have : c' = c := by have := hext _ _ hcx; rw [hc', Option.some.injEq] at this; exact this
      subst this
      rw [hD, Option.some.injEq, Ob.ctx.injEq] at hY
      subst hY
      exact ⟨_, by rw [put_ne _ (Ne.symm hsc)]; exact put_eq _ _ _, rfl, by simp only; rw [hnum, hDn]⟩
  cases hl : G.loc k with
  | none =>
    obtain ⟨g1, _⟩ := kc.lone hal hl
    rw [g1]
    refine ok_bnd.2 (ok_false rfl (ok_ret.2 ?_))
    obtain ⟨p, hp⟩ := List.exists_mem_of_ne_nil _ I.some_
    obtain ⟨P, fl, cb, cl, hP⟩ := I.page p hp
    have hq : P.frames.len = (G.fid p).length := hP.frames.len.trans hP.cnt
    refine fin (T1 := T) (n := (G.fid p).length) C I (fun _ _ h => h) (fun he => by rw [he] at hA; exact hA) hp hP.page (Nat.le_refl _) (fun i id hi hid => by have := get_lt hid; omega) (.inl hl) ?_ kc.ctx rfl (fun b o h _ _ => h)
    rw [← hq]; exact hP.page
  | some pi =>
    obtain ⟨p, i⟩ := pi
    obtain ⟨e1, e2⟩ := kc.framed p i hl
    obtain ⟨hp, hid⟩ := I.l2 k p i hl
    have hi := get_lt hid
    rw [e1]
    refine ok_bnd.2 (ok_true rfl ?_)
    refine ok_drfP ?_
    refine ok_tld C kc.ctx (x := (i : Int)) (by rw [← e2]; rfl) ?_
    obtain ⟨P0, fl0, cb0, cl0, hP0⟩ := I.page p hp
    have ew : IntKind.wrap .i64 ((i : Int) + 1) = ((i + 1 : Nat) : Int) := by
      have := hP0.cnt; have := hP0.frames.len; have := hP0.frames.le; have := hP0.frames.max
      rw [wrapI_in (by omega)]; simp
    rw [ew]
    refine ok_tcall C (part_spec C.th I hA hp hi) ?_
    rintro _ w1 T1 C ⟨S1, cx1, hext, I1, A1⟩
    have hl1 : (({ G with cx := cx1 } : Gh).cut p (i + 1)).loc k = some (p, i) := cutL_stay hl (by omega)
    have hc1 := hext _ _ hcx
    obtain ⟨X1, a1, k1⟩ := I1.ctx k c hc1
    obtain ⟨f1, f2⟩ := k1.framed p i hl1
    obtain ⟨P, fl, cb, cl, hP⟩ := I1.page p hp
    have hlen : (({ G with cx := cx1 } : Gh).cut p (i + 1)).fid p = (G.fid p).take (i + 1) := if_pos rfl
    have hcnt : fl.length = i + 1 := by rw [hP.cnt, hlen, List.length_take]; omega
    simp only [bnd_as, bnd_ret]
    refine ok_tord C fun o w2 C => ?_
    refine ok_drfP ?_
    refine ok_tld C hP.page (x := P.frames) rfl ?_
    refine ok_drfP ?_
    refine ok_tld C k1.ctx (x := (i : Int)) (by rw [← f2]; rfl) ?_
    refine ok_slcP (by have := hP.frames.le; have := hP.frames.len; omega) ?_
    refine ok_drfP ?_
    refine ok_twr C (.page { P with frames := ⟨P.frames.a, i, P.frames.cap⟩ }) hP.page (by simp [en, Pg.en]) rfl rfl fun w3 C => ?_
    have hpc : c ≠ p := by rintro rfl; have := hP.page; rw [k1.ctx] at this; cases this
    have hcp := (put_ne (T := T1) (.page { P with frames := ⟨P.frames.a, i, P.frames.cap⟩ }) hpc).trans k1.ctx
    refine ok_drfP ?_
    refine ok_ctw C { X1 with page := none } hcp (by decide) rfl rfl fun w4 C => ?_
    refine ok_ret.2 ?_
    refine fin (T1 := T1) (n := i) (p := p) (P := P) (X1 := { X1 with page := none }) C I1 hext (fun he => by rw [he] at A1; exact A1) hp hP.page (by rw [hlen, List.length_take]; omega) (fun j id hj hid' => ?_) (.inr ⟨i, hl1, Nat.le_refl _⟩) ?_ (put_eq _ _ _) ?_ (fun b o h n1 n2 => by rw [put_ne _ n2, put_ne _ n1]; exact h)
    · rw [hlen] at hid'
      have hlt := get_lt hid'
      rw [List.length_take] at hlt
      have : j = i := by omega
      subst this
      rw [List.getElem?_take_of_lt (by omega), hid, Option.some.injEq] at hid'
      exact hid'.symm
    · rw [put_ne _ (Ne.symm hpc)]; exact put_eq _ _ _
    · show X1.number = X.number
      rw [k1.number, kc.number]
end Go.Proofs.Ytckfidopkajpaaa

/-
  back; Return.
-/
namespace Go.Proofs.Ytckfidopkajpaaa
set_option linter.unusedVariables false
open Go.Sh Go.RowKit
set_option maxRecDepth 100000
variable {w : World} {T : Hp} {sb : Nat} {S : Sk} {A : St} {G : Gh}
/-- All of Fit but who is active. -/
structure St.Fit0 (A : St) : Prop where
  snd : ∀ (k : Nat) a j, A.acts[k]? = some a → a.sender = some j → j < A.acts.length
  extra : A.extra = 0
  acy : ∀ i, Acc (fun j i => A.eff i = some j) i
theorem St.Fit.fit0 (h : A.Fit) : A.Fit0 := ⟨h.snd, h.extra, h.acy⟩
theorem St.Fit0.on {A : St} (h : A.Fit0) (e : Option Nat) (he : ∀ j, e = some j → A.alive j = true) : (A.on e).Fit := ⟨h.snd, he, h.extra, h.acy⟩
theorem die_acy {A : St} (h : ∀ i, Acc (fun j i => A.eff i = some j) i) (k : Nat) (i : Nat) : Acc (fun j i => (A.die k).eff i = some j) i := by
  induction h i with
  | intro i _ ih =>
    refine ⟨_, fun j hj => ih j ?_⟩
    rw [die_eff] at hj
    unfold drp at hj
    split at hj
    · cases hj
    · exact hj
theorem St.Fit0.die {A : St} (h : A.Fit0) (k : Nat) : (A.die k).Fit0 := by
  cases ha : A.acts[k]? with
  | none => unfold St.die; rw [ha]; exact h
  | some a =>
    rw [die_def ha]
    refine ⟨fun i b j hb hj => ?_, h.extra, ?_⟩
    rotate_left
    · rw [← die_def ha]
      exact die_acy h.acy k
    rw [show (A.turn k { a with alive := false }).acts.length = A.acts.length from List.length_set]
    by_cases e : i = k
    · subst e
      rw [turn_at ha, Option.some.injEq] at hb
      subst hb
      exact h.snd i a j ha hj
    · rw [turn_ne e] at hb
      exact h.snd i b j hb hj
theorem hs_on (hf : A.Fit0) (I : Inv T sb S A G) {e : Option Nat} (hA : Acv S A G e) : Hs T sb (A.on e) :=
  ⟨hf.on e (by rintro j rfl; exact hA.1), S, G, I.like rfl rfl rfl rfl rfl, hA.like rfl⟩
/-- What follows a push that was an answer. -/
theorem backX {w0 : World} {T0 : Hp} (C : Tr en w0 T0 w T) (hf : A.Fit0) (I : Inv T sb S A G) {j : Nat} (hA : Acv S A G (some j)) (v : Int) {Q : Int → World → Prop}
    (hq0 : ∀ w' T', Tr en w0 T0 w' T' → (A.back (some j) v).1 = 0 → Hs T' sb (A.back (some j) v).2 → Q 0 w') (hq1 : ∀ w' T', Tr en w0 T0 w' T' → (A.back (some j) v) = (235, A.on none) → Hs T' sb (A.on none) → Q 235 w') :
    Ok (bnd (f9_frames_Stack_Push (pt (some sb)) v) fun r => cnd (r != (0 : Int)) (bnd (f36_frames_Stack_activate (pt (some sb)) (pt none)) fun _ => ret (235 : Int)) (ret (0 : Int))) w Q := by
  have hh := hs_on hf I hA
  refine ok_tcall C (push_spec C.th hh v) ?_
  rintro r w1 T1 C ⟨rfl, hs⟩
  unfold St.back at hq0 hq1
  by_cases h0 : ((A.on (some j)).push v).1 = 0
  · refine ok_false (by simpa using h0) (ok_ret.2 (hq0 w1 T1 C ?_ ?_))
    · rw [if_pos h0]; exact h0
    · rw [if_pos h0]; exact hs
  · refine ok_true (by simpa using h0) ?_
    -- the push did nothing
    have hsame : ((A.on (some j)).push v).2 = A.on (some j) := by
      unfold St.push at h0 ⊢
      split
      · rfl
      · split
        · rfl
        · rename_i hx hy
          rw [hx] at h0
          simp only at h0
          rw [if_neg hy] at h0
          exact absurd rfl h0
    rw [hsame] at hs
    obtain ⟨hf1, S1, G1, I1, _⟩ := hs
    refine ok_tcall C (activate_none C.th I1) ?_
    rintro _ w2 T2 C ⟨S2, I2, A2⟩
    refine ok_ret.2 (hq1 w2 T2 C (by rw [if_neg h0]) ?_)
    exact hs_on (A := A) hf (I2.like rfl rfl rfl rfl rfl) (e := none) A2
theorem back_spec (h : Th en w T) (hf : A.Fit0) (I : Inv T sb S A G) {c to : Option Nat} (hc : Cn G.cx c to) (hal : ∀ j, to = some j → A.alive j = true) (v : Int) :
    Sp (f39_frames_Stack_back (pt (some sb)) (pt c) v) w T fun r _ T' => r = (A.back to v).1 ∧ Hs T' sb (A.back to v).2 := by
  unfold f39_frames_Stack_back
  have C := Tr.refl h
  cases to with
  | none =>
    have hc : c = none := hc
    subst hc
    refine ok_tcall C (activate_none C.th I) ?_
    rintro _ w1 T1 C ⟨S1, I1, A1⟩
    refine ok_bnd.2 (ok_true rfl (ok_ret.2 ?_))
    refine ok_true rfl ?_
    refine ok_tcall C (activate_none C.th I1) ?_
    rintro _ w2 T2 C ⟨S2, I2, A2⟩
    exact ok_ret.2 ⟨T2, C, rfl, hs_on hf I2 A2⟩
  | some j =>
    obtain ⟨b, rfl, hb⟩ := hc
    refine ok_tcall C (activate_some C.th I hb (hal j rfl)) ?_
    rintro _ w1 T1 C ⟨S1, G1, p, k1, k2, I1, hp, t1, t2, hlast⟩
    have hA1 : Acv S1 A G1 (some j) := acv_top t1 t2 (by rw [k1]; exact hp) (hal j rfl) hlast
    refine ok_bnd.2 (ok_false rfl ?_)
    have key := backX C hf I1 hA1 v (Q := fun r w' => ∃ T', Tr en w T w' T' ∧ r = (A.back (some j) v).1 ∧ Hs T' sb (A.back (some j) v).2)
      (fun w' T' C' h0 hs => ⟨T', C', h0.symm, hs⟩) (fun w' T' C' h0 hs => ⟨T', C', by rw [h0], by rw [h0]; exact hs⟩)
    rw [ok_bnd] at key ⊢
    refine ok_mono key fun r w' hk => ok_ret.2 ?_
    rw [ok_cnd] at hk ⊢
    exact hk
theorem no_loop {A : St} (h : ∀ i, Acc (fun j i => A.eff i = some j) i) {k : Nat} (hk : A.eff k = some k) : False := by
  induction h k with
  | intro k _ ih => exact ih k hk hk
theorem return_spec (h : Th en w T) (hs : Hs T sb A) (v : Int) : Sp (f11_frames_Stack_Return (pt (some sb)) v) w T fun r _ T' => r = (A.ret v).1 ∧ Hs T' sb (A.ret v).2 := by
  unfold f11_frames_Stack_Return St.ret
  have C := Tr.refl h
  have hml : maxLen = 9223372036854775807 := by decide
  have hs0 := hs
  obtain ⟨hfit, S, G, I, hA⟩ := hs
  cases ha : A.active with
  | none =>
    rw [ha] at hA
    refine ok_trd C (active_none C.th I hA) fun w1 C => ?_
    exact ok_true rfl (ok_ret.2 ⟨T, C, rfl, hs0⟩)
  | some k =>
    rw [ha] at hA
    simp only
    obtain ⟨a, hact, hal⟩ := alive_lt hA.1
    refine ok_tcall C (active_some C.th I hA) ?_
    rintro _ w1 T1 C ⟨S1, G1, p, P, fb, k1, k2, I1, hp, t1, t2, hlast, hP, hfa, rfl⟩
    obtain ⟨hpos, hid⟩ := fid_last hlast
    obtain ⟨P', fl, L, fb', cb, cl, F, Z⟩ := I1.frAt hp hid hact
    have : P' = P := by have := Z.pg.page; rw [hP, Option.some.injEq, Ob.page.injEq] at this; exact this.symm
    subst this
    have : fb' = fb := by have := Z.fa; rw [hfa] at this; simp only [Option.some.injEq, Addr.mk.injEq, and_true] at this; exact this.symm
    subst this
    have hA1 := acv_top t1 t2 hp hA.1 hlast
    have hcnt := Z.pg.cnt
    have hlen := Z.pg.frames.len; have hle := Z.pg.frames.le; have hmx := Z.pg.frames.max
    refine ok_false rfl ?_
    refine ok_drfP ?_
    refine ok_tld C hP (x := P'.frames) rfl ?_
    refine ok_bnd.2 (ok_mono (Q := fun (b : Bool) w' => b = (decide (1 < (G1.fid p).length) && F.ctx.isNone) ∧ w' = w1) ?_ ?_)
    · by_cases h1 : 1 < (G1.fid p).length
      · refine ok_true (by simp only [gt_iff_lt, decide_eq_true_eq]; omega) ?_
        refine ok_drfS ?_
        refine ok_tld C Z.at_ (x := pt F.ctx) (rd_fr Z.f (by decide) rfl) ?_
        refine ok_ret.2 ⟨?_, rfl⟩
        rw [pt_none]; simp [h1]
      · exact ok_false (by simp only [gt_iff_lt, decide_eq_false_iff_not]; omega) (ok_ret.2 ⟨by simp [h1], rfl⟩)
    rintro _ w1 ⟨rfl, rfl⟩
    have ew : IntKind.wrap .i64 ((P'.frames.len : Int) - 1) = (((G1.fid p).length - 1 : Nat) : Int) := by rw [wrapI_in (by omega)]; omega
    by_cases hb : (decide (1 < (G1.fid p).length) && F.ctx.isNone) = true
    · refine ok_true hb ?_
      simp only [Bool.and_eq_true, decide_eq_true_eq] at hb
      obtain ⟨hb1, hb2⟩ := hb
      have hcx : G1.cx k = none := by rw [← Z.fr.ctx]; simpa using hb2
      refine ok_drfP ?_
      refine ok_tld C hP (x := P'.frames) rfl ?_
      rw [ew]
      refine ok_slcP (by omega) ?_
      refine ok_drfP ?_
      refine ok_twr C (.page { P' with frames := ⟨P'.frames.a, (G1.fid p).length - 1, P'.frames.cap⟩ }) hP (by simp [en, Pg.en]) rfl rfl fun w2 C => ?_
      have hps : sb ≠ p := by rintro rfl; have := I1.stk; rw [hP] at this; cases this
      have hs2 := (put_ne (T := T1) (.page { P' with frames := ⟨P'.frames.a, (G1.fid p).length - 1, P'.frames.cap⟩ }) hps).trans I1.stk
      refine ok_drfP ?_
      refine ok_tld C hs2 (x := S1.living) rfl ?_
      refine ok_drfP ?_
      have hlv := I1.living; have hlm := I1.lmax; have hmm := I1.mmax; have hdl := die_living hact hal
      have ew2 : IntKind.wrap .i64 (S1.living - 1) = S1.living - 1 := by rw [wrapI_in (by omega)]
      rw [ew2]
      refine ok_twr C (.stk { S1 with living := S1.living - 1 }) hs2 (by simp [en, Sk.en]) rfl rfl fun w3 C => ?_
      have hlk := I1.l1 p _ k hp hid
      have I2 := I1.die (n := (G1.fid p).length - 1) (P := P') (S' := { S1 with living := S1.living - 1 }) (T2 := put (put T1 p (.page { P' with frames := ⟨P'.frames.a, (G1.fid p).length - 1, P'.frames.cap⟩ })) sb (.stk { S1 with living := S1.living - 1 })) hact hal hp hP (by omega) (fun i id hi hid' => by
        have := get_lt hid'
        have : i = (G1.fid p).length - 1 := by omega
        subst this
        rw [hid, Option.some.injEq] at hid'
        exact hid'.symm) (.inr ⟨_, hlk, Nat.le_refl _⟩) ⟨rfl, rfl, rfl, rfl, rfl⟩ (fun b o h n1 n2 _ => by rw [put_ne _ n2, put_ne _ n1]; exact h) (by rw [put_ne _ (Ne.symm hps)]; exact put_eq _ _ _) (put_eq _ _ _) (fun c X hc => by rw [hcx] at hc; cases hc)
      -- its sender is the frame below
      have hj : (G1.fid p)[(G1.fid p).length - 2]? = some ((G1.fid p)[(G1.fid p).length - 2]'(by omega)) := List.getElem?_eq_getElem _
      generalize (G1.fid p)[(G1.fid p).length - 2]'(by omega) = j at hj
      have heff : A.eff k = some j := Z.pg.link _ j k hj (by rw [show (G1.fid p).length - 2 + 1 = (G1.fid p).length - 1 by omega]; exact hid)
      have hjk : j ≠ k := by
        rintro rfl
        have h1 := I1.l1 p _ j hp hj
        rw [hlk, Option.some.injEq, Prod.mk.injEq] at h1
        omega
      have hja : A.alive j = true := by
        obtain ⟨b, kb⟩ := Z.pg.fr _ _ j (List.getElem?_eq_getElem (by omega)) hj
        exact alive_act kb.act kb.alive
      have hA2 : Acv { S1 with living := S1.living - 1 } (A.die k) (G1.cut p ((G1.fid p).length - 1)) (some j) := by
        refine acv_top t1 t2 hp (by rw [die_alive_ne hjk]; exact hja) ?_
        show (cutF G1.fid p _ p).getLast? = _
        unfold cutF
        rw [if_pos rfl, List.getLast?_eq_getElem?, List.length_take, Nat.min_eq_left (by omega), List.getElem?_take_of_lt (by omega)]
        rw [← hj]; congr 1
      rw [heff]
      exact backX C (hfit.fit0.die k) I2 hA2 v (fun w' T' C' h0 hs => ⟨T', C', h0.symm, hs⟩) (fun w' T' C' h0 hs => ⟨T', C', by rw [h0], by rw [h0]; exact hs⟩)
    · refine ok_false (eq_false_of_ne_true hb) ?_
      refine ok_drfP ?_
      refine ok_tld C hP (x := P'.frames) rfl ?_
      rw [ew]
      refine ok_tcall C (marry_spec C.th I1 hp hid) ?_
      rintro _ w2 T2 C ⟨c, rfl, I2, hext, _⟩
      have hA2 := hA1.ext hext
      refine ok_tcall C (from_spec C.th I2 (cxu_eq _ _ _) hA.1) ?_
      rintro _ w3 T3 C ⟨cx3, c', hext3, I3, rfl, hcn, _⟩
      have hA3 := hA2.ext hext3
      refine ok_tcall C (endc_spec C.th I3 hA3 (hext3 _ _ (cxu_eq _ _ _)) hact hal) ?_
      rintro _ w4 T4 C ⟨S4, G4, I4, hext4, _⟩
      have hcn4 : Cn G4.cx c' (A.eff k) := by
        cases he : A.eff k with
        | none => rw [he] at hcn; exact hcn
        | some j => rw [he] at hcn; obtain ⟨b, h1, h2⟩ := hcn; exact ⟨b, h1, hext4 _ _ h2⟩
      refine ok_tcall C (back_spec C.th (hfit.fit0.die k) I4 hcn4 (fun j hj => ?_) v) ?_
      · have hjk : j ≠ k := by rintro rfl; exact no_loop hfit.acy hj
        rw [die_alive_ne hjk]; exact eff_alive hj
      · rintro r w5 T5 C ⟨rfl, hs5⟩
        exact ok_ret.2 ⟨T5, C, rfl, hs5⟩
end Go.Proofs.Ytckfidopkajpaaa
