/-
  Parts of the proof: FS, FT, FU, FV, FW. It states what the functions do; no further condition.
-/
import Derived.Test.YtckfidopkajpaaaFR
set_option linter.unusedVariables false
set_option linter.unusedSimpArgs false
/-
  An act turned; frames lie one behind the other.
-/
namespace Go.Proofs.Ytckfidopkajpaaa
set_option linter.unusedVariables false
open Go.Sh Go.RowKit
set_option maxRecDepth 100000
def St.turn (A : St) (id : Nat) (a : Ac) : St := { A with acts := A.acts.set id a }
theorem turn_at {A : St} {id : Nat} {a a' : Ac} (h : A.acts[id]? = some a) : (A.turn id a').acts[id]? = some a' := by
  have hi : id < A.acts.length := by
    rcases Nat.lt_or_ge id A.acts.length with h' | h'
    · exact h'
    · rw [List.getElem?_eq_none h'] at h; cases h
  exact List.getElem?_set_self hi
theorem turn_ne {A : St} {id k : Nat} {a' : Ac} (h : k ≠ id) : (A.turn id a').acts[k]? = A.acts[k]? := List.getElem?_set_ne (Ne.symm h)
theorem turn_alive {A : St} {id : Nat} {a a' : Ac} (h : A.acts[id]? = some a) (ha : a'.alive = a.alive) (k : Nat) : (A.turn id a').alive k = A.alive k := by
  unfold St.alive
  by_cases e : k = id
  · subst e; rw [turn_at h, h]; exact ha
  · rw [turn_ne e]
theorem turn_eff {A : St} {id : Nat} {a a' : Ac} (h : A.acts[id]? = some a) (ha : a'.alive = a.alive) (hs : a'.sender = a.sender) (k : Nat) : (A.turn id a').eff k = A.eff k := by
  unfold St.eff
  by_cases e : k = id
  · subst e
    rw [turn_at h, h]
    simp only [hs, turn_alive h ha]
  · rw [turn_ne e]
    simp only [turn_alive h ha]
theorem turn_living {A : St} {id : Nat} {a a' : Ac} (h : A.acts[id]? = some a) (ha : a'.alive = a.alive) : (A.turn id a').living = A.living := by
  unfold St.living St.turn
  have hi : id < A.acts.length := by
    rcases Nat.lt_or_ge id A.acts.length with h' | h'
    · exact h'
    · rw [List.getElem?_eq_none h'] at h; cases h
  have e : A.acts[id] = a := by rw [List.getElem?_eq_getElem hi, Option.some.injEq] at h; exact h
  simp only
  rw [List.set_eq_take_append_cons_drop, if_pos hi]
  conv => rhs; rw [← List.take_append_drop id A.acts, List.drop_eq_getElem_cons hi, e]
  simp only [List.countP_append, List.countP_cons, ha]
theorem turn_sn {A : St} {id : Nat} {a a' : Ac} (h : A.acts[id]? = some a) (ha : a'.alive = a.alive) {cx : Nat → Option Nat} {c e : Option Nat} (hs : Sn A cx c e) : Sn (A.turn id a') cx c e := by
  cases c with
  | none => exact hs
  | some c => obtain ⟨k, h1, h2⟩ := hs; exact ⟨k, h1, by rw [turn_alive h ha]; exact h2⟩
/-- A frame ends where the next one begins, or before. -/
theorem chain_le {fl : List Fr} (hn : ∀ (i : Nat) F G, fl[i]? = some F → fl[i + 1]? = some G → G.base = F.fin) (hs : ∀ F ∈ fl, F.Small) {i : Nat} {F : Fr} (hF : fl[i]? = some F) : ∀ (k : Nat) (G : Fr), fl[i + 1 + k]? = some G → F.fin ≤ G.base
  | 0, G, hG => by have := hn i F G hF hG; omega
  | k + 1, G, hG => by
    have hi : i + 1 + k < fl.length := by
      rcases Nat.lt_or_ge (i + 1 + (k + 1)) fl.length with h | h
      · omega
      · rw [List.getElem?_eq_none h] at hG; cases hG
    have h1 := List.getElem?_eq_getElem hi
    have h2 := chain_le hn hs hF k _ h1
    have h3 := hn (i + 1 + k) _ G h1 hG
    obtain ⟨s1, s2, s3, s4⟩ := hs _ (List.getElem_mem hi)
    have h4 : (fl[i + 1 + k]'hi).base ≤ (fl[i + 1 + k]'hi).fin := by unfold Fr.fin; omega
    omega
end Go.Proofs.Ytckfidopkajpaaa

/-
  A frame's act turned: its slots, its stack.
-/
namespace Go.Proofs.Ytckfidopkajpaaa
set_option linter.unusedVariables false
open Go.Sh Go.RowKit
set_option maxRecDepth 100000
variable {w : World} {T : Hp} {sb : Nat} {S : Sk} {A : St} {G : Gh}
theorem Inv.turn (I : Inv T sb S A G) {p i id fb cb : Nat} {P : Pg} {fl L : List Fr} {cl cl' : List Int} {F : Fr} {a a' : Ac} (hp : p ∈ G.pl) (hid : (G.fid p)[i]? = some id) (hP : PgOk T A G.cx p (G.fid p) P fl cb cl) (ha : P.frames.a = some ⟨fb, 0, none⟩) (hb : T fb = some (.frs p L)) (hL : L.length = P.frames.cap) (ht : L.take fl.length = fl) (hF : fl[i]? = some F)
    (hact : A.acts[id]? = some a) (h1 : a'.alive = a.alive) (h2 : a'.sender = a.sender) (h3 : a'.method = a.method) (h4 : a'.room = a.room) (h5 : a'.slots.length = a.slots.length) (h6 : a'.stack.length ≤ a'.room) (hcl : cl'.length = cl.length)
    (hs : (cl'.drop (F.base.toNat + 4)).take a'.slots.length = a'.slots) (hst : (cl'.drop (F.base.toNat + 4 + a'.slots.length)).take a'.stack.length = a'.stack) (hout : ∀ x k, (x + k ≤ F.base.toNat ∨ F.fin.toNat ≤ x) → (cl'.drop x).take k = (cl.drop x).take k) {T2 : Hp}
    (k1 : ∀ b o, T b = some o → b ≠ fb → b ≠ cb → T2 b = some o) (k2 : T2 fb = some (.frs p (L.set i { F with depth := a'.stack.length }))) (k3 : T2 cb = some (.ints (.cells p) cl')) : Inv T2 sb S (A.turn id a') G := by
  have keep : ∀ b o, T b = some o → (∀ L, o ≠ .frs p L) → (∀ L, o ≠ .ints (.cells p) L) → T2 b = some o := fun b o h n1 n2 => k1 b o h (by rintro rfl; rw [hb, Option.some.injEq] at h; exact n1 L h.symm) (by rintro rfl; rw [hP.has, Option.some.injEq] at h; exact n2 cl h.symm)
  have hil : i < fl.length := by
    rcases Nat.lt_or_ge i fl.length with h | h
    · exact h
    · rw [List.getElem?_eq_none h] at hF; cases hF
  have hsm : ∀ F ∈ fl, F.Small := by
    intro F' hm
    obtain ⟨j, hj, rfl⟩ := List.getElem_of_mem hm
    have hjd : (G.fid p)[j]? = some ((G.fid p)[j]'(by have := hP.cnt; omega)) := List.getElem?_eq_getElem _
    obtain ⟨b, hb'⟩ := hP.fr j _ _ (List.getElem?_eq_getElem hj) hjd
    exact hb'.small I.cmax
  obtain ⟨a0, hfr⟩ := hP.fr i F id hF hid
  have : a0 = a := by have := hfr.act; rw [hact, Option.some.injEq] at this; exact this.symm
  subst this
  have sm := hsm F (List.mem_of_getElem? hF)
  refine { I with stk := keep _ _ I.stk (by simp) (by simp), living := by rw [turn_living hact h1]; exact I.living, lmax := by rw [turn_living hact h1]; exact I.lmax, pgs := ?_, page := ?_, ctx := ?_, here := fun k hk => I.here k (by rw [turn_alive hact h1] at hk; exact hk), nmd := ?_ }
  · obtain ⟨g1, g2, g3, b, L', g4, g5, g6⟩ := I.pgs
    exact ⟨g1, g2, g3, b, L', g4, keep _ _ g5 (by simp) (by simp), g6⟩
  · intro q hq
    by_cases e : q = p
    · subst e
      refine ⟨P, fl.set i { F with depth := a'.stack.length }, cb, cl', { page := keep _ _ hP.page (by simp) (by simp), cells := hP.cells, has := k3, cll := hcl.trans hP.cll, frames := ?_, cnt := by rw [List.length_set]; exact hP.cnt, fr := ?_, first := ?_, next := ?_, below := fun id' h' => by rw [turn_eff hact h1 h2]; exact turn_sn hact h1 (hP.below id' h'), link := fun j x y hx hy => by rw [turn_eff hact h1 h2]; exact hP.link j x y hx hy }⟩
      · exact ⟨by rw [List.length_set]; exact hP.frames.len, hP.frames.le, hP.frames.max, .inr ⟨fb, _, ha, k2, by rw [List.length_set]; exact hL, take_set ht i _⟩⟩
      · intro j F' jd hF' hjd
        by_cases ej : j = i
        · subst ej
          rw [hid, Option.some.injEq] at hjd
          subst hjd
          rw [List.getElem?_set_self hil] at hF'
          simp only [Option.some.injEq] at hF'
          subst hF'
          exact ⟨a', { act := turn_at hact, alive := h1.trans hfr.alive, base := hfr.base, method := hfr.method.trans h3.symm, slots := by rw [h5]; exact hfr.slots, depth := rfl, room := by rw [h4]; exact hfr.room, fits := h6, ctx := hfr.ctx, fin := hfr.fin, hasS := hs, hasT := hst }⟩
        · rw [List.getElem?_set_ne (by omega)] at hF'
          obtain ⟨b, kb⟩ := hP.fr j F' jd hF' hjd
          have hne : jd ≠ id := by
            rintro rfl
            have q1 := I.l1 q j jd hp hjd
            have q2 := I.l1 q i jd hp hid
            rw [q1, Option.some.injEq, Prod.mk.injEq] at q2
            exact ej q2.2
          have sm' := hsm F' (List.mem_of_getElem? hF')
          have b1 := kb.slots; have b2 := kb.depth; have b3 := kb.room; have b4 := kb.fits; have b5 := kb.base
          have far : F'.fin ≤ F.base ∨ F.fin ≤ F'.base := by
            rcases Nat.lt_or_ge j i with h | h
            · left
              obtain ⟨k, rfl⟩ : ∃ k, i = j + 1 + k := ⟨i - j - 1, by omega⟩
              exact chain_le hP.next hsm hF' k F hF
            · right
              obtain ⟨k, rfl⟩ : ∃ k, j = i + 1 + k := ⟨j - i - 1, by omega⟩
              exact chain_le hP.next hsm hF k F' hF'
          unfold Fr.fin at far hout
          refine ⟨b, { kb with act := by rw [turn_ne hne]; exact kb.act, hasS := ?_, hasT := ?_ }⟩
          · rw [hout _ _ (by omega)]; exact kb.hasS
          · rw [hout _ _ (by omega)]; exact kb.hasT
      · intro F' hF'
        by_cases ej : i = 0
        · subst ej
          rw [List.getElem?_set_self hil] at hF'
          simp only [Option.some.injEq] at hF'
          subst hF'
          exact hP.first F hF
        · rw [List.getElem?_set_ne (by omega)] at hF'
          exact hP.first F' hF'
      · intro j F1 F2 e1 e2
        rw [List.getElem?_set] at e1 e2
        have q1 : ∃ F1', fl[j]? = some F1' ∧ F1'.fin = F1.fin := by
          split at e1
          · rename_i e; subst e
            simp only [Option.some.injEq] at e1; subst e1; exact ⟨F, hF, rfl⟩
          · exact ⟨F1, e1, rfl⟩
        have q2 : ∃ F2', fl[j + 1]? = some F2' ∧ F2'.base = F2.base := by
          split at e2
          · rename_i e; subst e
            simp only [Option.some.injEq] at e2; subst e2; exact ⟨F, hF, rfl⟩
          · exact ⟨F2, e2, rfl⟩
        obtain ⟨F1', a1, a2⟩ := q1
        obtain ⟨F2', b1, b2⟩ := q2
        rw [← b2, ← a2]
        exact hP.next j F1' F2' a1 b1
    · obtain ⟨Q, fl', cb', cl2, hQ⟩ := I.page q hq
      have hQ' := hQ.mono (T' := T2) (fun P h => keep _ _ h (by simp) (by simp)) (fun b L h => keep _ _ h (by simp) (by simp [e])) (fun b L' h => keep _ _ h (by simp [e]) (by simp))
      refine ⟨Q, fl', cb', cl2, { page := hQ'.page, cells := hQ'.cells, has := hQ'.has, cll := hQ'.cll, frames := hQ'.frames, cnt := hQ'.cnt, fr := fun j F' jd hF' hjd => ?_, first := hQ'.first, next := hQ'.next, below := fun id' h' => by rw [turn_eff hact h1 h2]; exact turn_sn hact h1 (hQ.below id' h'), link := fun j x y hx hy => by rw [turn_eff hact h1 h2]; exact hQ.link j x y hx hy }⟩
      obtain ⟨b, kb⟩ := hQ.fr j F' jd hF' hjd
      have hne : jd ≠ id := by
        rintro rfl
        have q1 := I.l1 q j jd hq hjd
        have q2 := I.l1 p i jd hp hid
        rw [q1, Option.some.injEq, Prod.mk.injEq] at q2
        exact e q2.1
      exact ⟨b, { kb with act := by rw [turn_ne hne]; exact kb.act, fin := kb.fin }⟩
  · intro jd c hc
    obtain ⟨X, b, k⟩ := I.ctx jd c hc
    by_cases e : jd = id
    · subst e
      have : b = a0 := by have := k.act; rw [hact, Option.some.injEq] at this; exact this.symm
      subst this
      exact ⟨X, a', { ctx := keep _ _ k.ctx (by simp) (by simp), act := turn_at hact, dead := by rw [h1]; exact k.dead, number := k.number, framed := k.framed, lone := fun _ h0 => (by rw [I.l1 p i jd hp hid] at h0; cases h0) }⟩
    · refine ⟨X, b, { ctx := keep _ _ k.ctx (by simp) (by simp), act := by rw [turn_ne e]; exact k.act, dead := k.dead, number := k.number, framed := k.framed, lone := fun g0 h0 => ?_ }⟩
      obtain ⟨g1, g2, g3, g4, g5, g6, g7, g8⟩ := k.lone g0 h0
      exact ⟨g1, g2, g3, g4, g5, g6.mono fun b L h => keep _ _ h (by simp) (by simp), g7.mono fun b L h => keep _ _ h (by simp) (by simp), by rw [turn_eff hact h1 h2]; exact turn_sn hact h1 g8⟩
  · obtain ⟨g1, g2, g3, g4⟩ := I.nmd
    exact ⟨g1, g2, g3, g4.imp (fun h => h) fun ⟨b, L', q1, q2, q3, q4⟩ => ⟨b, L', q1, keep _ _ q2 (by simp) (by simp), q3, q4⟩⟩
end Go.Proofs.Ytckfidopkajpaaa

/-
  Push.
-/
namespace Go.Proofs.Ytckfidopkajpaaa
set_option linter.unusedVariables false
open Go.Sh Go.RowKit
set_option maxRecDepth 100000
variable {w : World} {T : Hp} {sb : Nat} {S : Sk} {A : St} {G : Gh}
theorem push_none (h : Th en w T) (I : Inv T sb S A G) (hA : Acv S A G none) (v : Int) : Sp (f9_frames_Stack_Push (pt (some sb)) v) w T fun r _ T' => T' = T ∧ r = 231 := by
  unfold f9_frames_Stack_Push
  have C := Tr.refl h
  refine ok_trd C (active_none C.th I hA) fun w1 C => ?_
  exact ok_true rfl (ok_ret.2 ⟨T, C, rfl, rfl⟩)
theorem push_full (h : Th en w T) (I : Inv T sb S A G) {id : Nat} {a : Ac} (hA : Acv S A G (some id)) (hact : A.acts[id]? = some a) (hfull : a.room ≤ a.stack.length) (v : Int) : Sp (f9_frames_Stack_Push (pt (some sb)) v) w T fun r _ T' => r = 236 ∧ ∃ S' G', Inv T' sb S' A G' ∧ Acv S' A G' (some id) ∧ (∀ k b, G.cx k = some b → G'.cx k = some b) := by
  unfold f9_frames_Stack_Push
  have C := Tr.refl h
  refine ok_tcall C (active_some C.th I hA) ?_
  rintro _ w1 T1 C ⟨S1, G1, p, P, fb, k1, k2, I1, hp, t1, t2, hlast, hP, ha, rfl⟩
  obtain ⟨hpos, hid⟩ := fid_last hlast
  obtain ⟨fl, cb, cl, L, F, hPg, hb, hF, hfr⟩ := I1.pageAt2 hp hid hP ha hact
  refine ok_false rfl ?_
  refine ok_tdraw C fun w2 C => ?_
  refine ok_drfS ?_
  refine ok_tld C hb (x := F.depth) (rd_fr hF (by decide) rfl) ?_
  refine ok_drfS ?_
  refine ok_tld C hb (x := F.room) (rd_fr hF (by decide) rfl) ?_
  have e1 := hfr.depth; have e2 := hfr.room
  refine ok_true (by simp only [ge_iff_le, decide_eq_true_eq]; omega) (ok_ret.2 ⟨T1, C, rfl, S1, G1, I1, ?_, k2⟩)
  exact acv_top t1 t2 hp hA.1 hlast
end Go.Proofs.Ytckfidopkajpaaa

/-
  One number of a row turned.
-/
namespace Go.Proofs.Ytckfidopkajpaaa
set_option linter.unusedVariables false
open Go.Sh Go.RowKit
theorem set_out {cl : List Int} {k a n : Nat} {v : Int} (h : a + n ≤ k ∨ k < a) : ((cl.set k v).drop a).take n = (cl.drop a).take n := by
  apply List.ext_getElem?
  intro i
  rw [List.getElem?_take, List.getElem?_take]
  split
  · rw [List.getElem?_drop, List.getElem?_drop, List.getElem?_set_ne (by omega)]
  · rfl
theorem set_end {cl l : List Int} {off : Nat} {v : Int} (h : (cl.drop off).take l.length = l) (hk : off + l.length < cl.length) : ((cl.set (off + l.length) v).drop off).take (l.length + 1) = l ++ [v] := by
  rw [List.take_add_one, set_out (.inl (Nat.le_refl _)), h, List.getElem?_drop, List.getElem?_set_self hk]
  rfl
theorem spl_set (l : List Value) (k : Nat) (x : Value) (h : k < l.length) : spl l k [x] = l.set k x := by
  unfold spl
  rw [List.set_eq_take_append_cons_drop, if_pos h]
  simp
theorem wr_int {o : Ow} {cl : List Int} {k : Nat} {v : Int} (h : k < cl.length) : spl (en (.ints o cl)) k [.int .i64 v] = en (.ints o (cl.set k v)) := by
  rw [spl_set _ _ _ (by simp only [en, nums, List.length_map]; exact h)]
  simp [en, nums, List.map_set]
theorem ok_ixP1 {s : Sl} {b off : Nat} {i : Int} {w : World} {α : Type} {f : Addr → M α} {Q : α → World → Prop} (ha : s.a = some ⟨b, off, none⟩) (h0 : 0 ≤ i) (h1 : i < s.len) (hq : Ok (f ⟨b, off + i.toNat, none⟩) w Q) : Ok (bnd (ix 1 s i) f) w Q := by
  refine ok_bnd.2 (ok_ix ha h0 h1 ?_)
  rw [Nat.mul_one, addr_add]
  exact hq
end Go.Proofs.Ytckfidopkajpaaa

/-
  Push where there is room.
-/
namespace Go.Proofs.Ytckfidopkajpaaa
set_option linter.unusedVariables false
open Go.Sh Go.RowKit
set_option maxRecDepth 100000
variable {w : World} {T : Hp} {sb : Nat} {S : Sk} {A : St} {G : Gh}
theorem push_room (h : Th en w T) (I : Inv T sb S A G) {id : Nat} {a : Ac} (hA : Acv S A G (some id)) (hact : A.acts[id]? = some a) (hroom : a.stack.length < a.room) (v : Int) : Sp (f9_frames_Stack_Push (pt (some sb)) v) w T fun r _ T' => r = 0 ∧ ∃ S' G', Inv T' sb S' (A.turn id { a with stack := a.stack ++ [v] }) G' ∧ Acv S' (A.turn id { a with stack := a.stack ++ [v] }) G' (some id) ∧ (∀ k b, G.cx k = some b → G'.cx k = some b) := by
  unfold f9_frames_Stack_Push
  have C := Tr.refl h
  refine ok_tcall C (active_some C.th I hA) ?_
  rintro _ w1 T1 C ⟨S1, G1, p, P, fb, k1, k2, I1, hp, t1, t2, hlast, hP, ha, rfl⟩
  obtain ⟨hpos, hid⟩ := fid_last hlast
  obtain ⟨P', fl, cb, cl, fb', L, F, a', hPg, ha', hb, hL, ht, hF0, hfr, hi⟩ := I1.pageAt hp hid
  have : P' = P := by have := hPg.page; rw [hP, Option.some.injEq, Ob.page.injEq] at this; exact this.symm
  subst this
  rw [ha] at ha'
  simp only [Option.some.injEq, Addr.mk.injEq, and_true] at ha'
  subst ha'
  have : a' = a := by have := hfr.act; rw [hact, Option.some.injEq] at this; exact this.symm
  subst this
  have hF := take_at ht hF0
  have e1 := hfr.depth; have e2 := hfr.room; have e3 := hfr.slots; have e4 := hfr.base; have e5 := hfr.fin
  have sm := hfr.small I1.cmax
  have hcl := hPg.cll
  have hcm := I1.cmax
  unfold Fr.fin at e5
  refine ok_false rfl ?_
  refine ok_tdraw C fun w2 C => ?_
  refine ok_drfS ?_
  refine ok_tld C hb (x := F.depth) (rd_fr hF (by decide) rfl) ?_
  refine ok_drfS ?_
  refine ok_tld C hb (x := F.room) (rd_fr hF (by decide) rfl) ?_
  refine ok_false (by simp only [ge_iff_le, decide_eq_false_iff_not]; omega) ?_
  refine ok_drfS ?_
  refine ok_tld C hb (x := F.depth) (rd_fr hF (by decide) rfl) ?_
  refine ok_drfS ?_
  have ew : IntKind.wrap .i64 (F.depth + 1) = ((a'.stack.length + 1 : Nat) : Int) := by rw [wrapI_in (by omega)]; omega
  rw [ew]
  have hiL : (G1.fid p).length - 1 < L.length := by
    rcases Nat.lt_or_ge ((G1.fid p).length - 1) L.length with h | h
    · exact h
    · rw [List.getElem?_eq_none h] at hF; cases hF
  have hln : (en (.frs p L)).length = 6 * L.length := flat_length fr_len L
  refine ok_twr C (.frs p (L.set ((G1.fid p).length - 1) { F with depth := ((a'.stack.length + 1 : Nat) : Int) })) hb (by rw [hln]; simp; omega) rfl (wr_fr hF (by simp) rfl) fun w3 C => ?_
  have kk : ∀ b o, T1 b = some o → (∀ L, o ≠ .frs p L) → put T1 fb (.frs p (L.set ((G1.fid p).length - 1) { F with depth := ((a'.stack.length + 1 : Nat) : Int) })) b = some o := fun b o h hn => put_other h hb (hn L)
  have hb2 := put_eq T1 fb (.frs p (L.set ((G1.fid p).length - 1) { F with depth := ((a'.stack.length + 1 : Nat) : Int) }))
  have nn : ∀ b, b ≠ fb → put T1 fb (.frs p (L.set ((G1.fid p).length - 1) { F with depth := ((a'.stack.length + 1 : Nat) : Int) })) b = T1 b := fun b h => put_ne _ h
  generalize put T1 fb (.frs p (L.set ((G1.fid p).length - 1) { F with depth := ((a'.stack.length + 1 : Nat) : Int) })) = T2 at C kk hb2 nn
  have hF2 : (L.set ((G1.fid p).length - 1) { F with depth := ((a'.stack.length + 1 : Nat) : Int) })[(G1.fid p).length - 1]? = some { F with depth := ((a'.stack.length + 1 : Nat) : Int) } := List.getElem?_set_self hiL
  have sm2 : Fr.Small { F with depth := ((a'.stack.length + 1 : Nat) : Int) } := ⟨sm.1, sm.2.1, ⟨by simp only; omega, by simp only; omega⟩, sm.2.2.2⟩
  simp only [bnd_as, bnd_ret]
  refine ok_tord C fun o w4 C => ?_
  refine ok_drfS ?_
  refine ok_tld C hb2 (x := ((a'.stack.length + 1 : Nat) : Int)) (rd_fr hF2 (by decide) rfl) ?_
  refine ok_trd C (stack_spec C.th (kk _ _ hP (by simp)) hb2 hF2 sm2 (by rw [hPg.cells]) (by rw [hPg.cells]; unfold Fr.fin; simp only; omega)) fun w5 C => ?_
  refine ok_tchk C hb2 (rd_fr hF2 (by decide) rfl) ?_
  have ex : IntKind.wrap .i64 (((a'.stack.length + 1 : Nat) : Int) - 1) = (a'.stack.length : Int) := by rw [wrapI_in (by omega)]; omega
  rw [ex]
  refine ok_ixP1 (b := cb) (off := F.base.toNat + 4 + a'.slots.length) (by simp only; rw [if_neg (by omega), show (F.base + 4 + F.slots).toNat = F.base.toNat + 4 + a'.slots.length by omega]) (by omega) (by simp only; omega) ?_
  rw [Int.toNat_natCast]
  have hcb := kk _ _ hPg.has (by simp)
  refine ok_twr0 C (.ints (.cells p) (cl.set (F.base.toNat + 4 + a'.slots.length + a'.stack.length) v)) hcb (by simp [en]; omega) rfl (wr_int (by omega)) fun w6 C => ?_
  have hne : fb ≠ cb := by rintro rfl; have := hPg.has; rw [hb] at this; cases this
  refine ok_ret.2 ⟨_, C, rfl, S1, G1, ?_, ?_, k2⟩
  · refine I1.turn (F := F) (cl' := cl.set (F.base.toNat + 4 + a'.slots.length + a'.stack.length) v) (a' := { a' with stack := a'.stack ++ [v] }) (T2 := put T2 cb (.ints (.cells p) (cl.set (F.base.toNat + 4 + a'.slots.length + a'.stack.length) v))) hp hid hPg ha hb hL ht hF0 hact rfl rfl rfl rfl rfl (by simp; omega) (List.length_set) ?_ ?_ ?_ (fun b o h n1 n2 => by rw [put_ne _ n2, nn _ n1]; exact h) (by rw [put_ne _ hne, hb2]; simp) (put_eq _ _ _)
    · rw [set_out (.inl (by simp only; omega))]; exact hfr.hasS
    · simp only [List.length_append, List.length_singleton]
      exact set_end hfr.hasT (by omega)
    · intro x k hx
      exact set_out (by unfold Fr.fin at hx; omega)
  · exact acv_top t1 t2 hp ((turn_alive (a' := { a' with stack := a'.stack ++ [v] }) hact rfl id).trans hA.1) hlast
end Go.Proofs.Ytckfidopkajpaaa
