/-
  Parts of the proof: FX, FY, FZ. It states what the functions do; no further condition.
-/
import Derived.Test.YtckfidopkajpaaaFW
set_option linter.unusedVariables false
set_option linter.unusedSimpArgs false
/-
  The document's calls of activations, in plain Lean; a stack that holds a state.
-/
namespace Go.Proofs.Ytckfidopkajpaaa
set_option linter.unusedVariables false
open Go.Sh Go.RowKit
set_option maxRecDepth 100000
namespace St
def on (A : St) (e : Option Nat) : St := { A with active := e }
def call (A : St) (m : Int) (sl : List Int) (n : Int) : Int × St :=
  if n < 0 ∨ n > A.cells ∨ (sl.length : Int) + n + 4 > A.cells then (237, A)
  else if A.most ≤ A.living then (236, A)
  else (0, { A with acts := A.acts ++ [⟨m, sl, [], n.toNat, A.active, true⟩], active := some A.acts.length })
/-- The active one's act. -/
def act (A : St) : Option (Nat × Ac) := match A.active with
  | none => none
  | some k => match A.acts[k]? with
    | none => none
    | some a => some (k, a)
def push (A : St) (v : Int) : Int × St := match A.act with
  | none => (231, A)
  | some (k, a) => if a.room ≤ a.stack.length then (236, A) else (0, A.turn k { a with stack := a.stack ++ [v] })
def pop (A : St) : (Int × Int) × St := match A.act with
  | none => ((0, 231), A)
  | some (k, a) => match a.stack.getLast? with
    | none => ((0, 233), A)
    | some v => ((v, 0), A.turn k { a with stack := a.stack.dropLast })
def get (A : St) (i : Int) : Int × Int := match A.act with
  | none => (0, 231)
  | some (k, a) => if i < 0 ∨ i ≥ a.slots.length then (0, 232) else (a.slots.getD i.toNat 0, 0)
def set (A : St) (i v : Int) : Int × St := match A.act with
  | none => (231, A)
  | some (k, a) => if i < 0 ∨ i ≥ a.slots.length then (232, A) else (0, A.turn k { a with slots := a.slots.set i.toNat v })
def die (A : St) (k : Nat) : St := match A.acts[k]? with
  | some a => A.turn k { a with alive := false }
  | none => A
def back (A : St) (to : Option Nat) (v : Int) : Int × St :=
  let r := (A.on to).push v
  if r.1 = 0 then r else (235, A.on none)
def ret (A : St) (v : Int) : Int × St := match A.active with
  | none => (231, A)
  | some k => (A.die k).back (A.eff k) v
def name (A : St) (k : Option Nat) : Int × St := match k with
  | none => (0, A)
  | some k => if k ∈ A.named then (A.num k, A) else ((A.named.length : Int) + 1, { A with named := A.named ++ [k] })
def this (A : St) : Int × St := A.name A.active
def of (A : St) (c : Int) : Option Nat × Int := if c < 1 ∨ c > A.named.length then (none, 234) else match A.named[(c - 1).toNat]? with
  | none => (none, 234)
  | some k => if A.alive k then (some k, 0) else (none, 235)
def senderOf (A : St) (c : Int) : (Int × Int) × St := match A.of c with
  | (none, e) => ((0, e), A)
  | (some k, _) => ((((A.name (A.eff k)).1), 0), (A.name (A.eff k)).2)
def methodOf (A : St) (c : Int) : Int × Int := match A.of c with
  | (none, e) => (0, e)
  | (some k, _) => match A.acts[k]? with
    | none => (0, 235)
    | some a => (a.method, 0)
def slot (A : St) (c i : Int) : Int × Int := match A.of c with
  | (none, e) => (0, e)
  | (some k, _) => match A.acts[k]? with
    | none => (0, 235)
    | some a => if i < 0 ∨ i ≥ a.slots.length then (0, 232) else (a.slots.getD i.toNat 0, 0)
def setSlot (A : St) (c i v : Int) : Int × St := match A.of c with
  | (none, e) => (e, A)
  | (some k, _) => match A.acts[k]? with
    | none => (235, A)
    | some a => if i < 0 ∨ i ≥ a.slots.length then (232, A) else (0, A.turn k { a with slots := a.slots.set i.toNat v })
def lies (A : St) (c : Int) : List Int × Int := match A.of c with
  | (none, e) => ([], e)
  | (some k, _) => match A.acts[k]? with
    | none => ([], 235)
    | some a => (a.stack, 0)
def aliveOf (A : St) (c : Int) : Bool := (A.of c).2 == 0
def switch (A : St) (c : Int) : Int × St := if c = 0 then (0, A.on none) else match A.of c with
  | (none, e) => (e, A)
  | (some k, _) => (0, A.on (some k))
/-- From sender to sender. -/
inductive Row (A : St) : Nat → List Nat → Nat → Prop
  | one (i : Nat) : Row A i [i] i
  | next {i j k : Nat} {l : List Nat} : A.eff i = some j → Row A j l k → Row A i (i :: l) k
open Classical in
noncomputable def behind (A : St) (i c : Nat) : Bool := decide (∃ l, Row A i l c)
noncomputable def setSender (A : St) (c d : Int) : Int × St := match A.of c with
  | (none, e) => (e, A)
  | (some k, _) => match A.acts[k]? with
    | none => (235, A)
    | some a => if d = 0 then (0, A.turn k { a with sender := none }) else match A.of d with
      | (none, e) => (e, A)
      | (some j, _) => if A.behind j k then (238, A) else (0, A.turn k { a with sender := some j })
open Classical in
noncomputable def unwind (A : St) (c v : Int) : Int × St := match A.active with
  | none => (231, A)
  | some i => match A.of c with
    | (none, e) => (e, A)
    | (some k, _) => if h : ∃ l, Row A i l k then (h.choose.foldl die A).back (A.eff k) v else (238, A)
end St
/-- What is so of any state. -/
structure St.Fit (A : St) : Prop where
  snd : ∀ (k : Nat) a j, A.acts[k]? = some a → a.sender = some j → j < A.acts.length
  act : ∀ k, A.active = some k → A.alive k = true
  extra : A.extra = 0
  acy : ∀ i, Acc (fun j i => A.eff i = some j) i
/-- A stack that holds a state. -/
def Hs (T : Hp) (sb : Nat) (A : St) : Prop := A.Fit ∧ ∃ S G, Inv T sb S A G ∧ Acv S A G A.active
theorem St.act_none {A : St} (hf : A.Fit) (h : A.act = none) : A.active = none := by
  unfold St.act at h
  split at h
  · assumption
  · rename_i k hk
    obtain ⟨a, ha, _⟩ := alive_lt (hf.act k hk)
    rw [ha] at h; cases h
theorem St.act_some {A : St} {k : Nat} {a : Ac} (h : A.act = some (k, a)) : A.active = some k ∧ A.acts[k]? = some a := by
  unfold St.act at h
  split at h
  · cases h
  · rename_i k' hk
    split at h
    · cases h
    · rename_i a' ha
      simp only [Option.some.injEq, Prod.mk.injEq] at h
      obtain ⟨rfl, rfl⟩ := h
      exact ⟨hk, ha⟩
theorem St.act_of {A : St} {k : Nat} {a : Ac} (h1 : A.active = some k) (h2 : A.acts[k]? = some a) : A.act = some (k, a) := by
  unfold St.act; rw [h1]; simp only; rw [h2]
theorem St.Fit.turn {A : St} (h : A.Fit) {k : Nat} {a a' : Ac} (ha : A.acts[k]? = some a) (h1 : a'.alive = a.alive) (h2 : a'.sender = a.sender) : (A.turn k a').Fit := by
  refine ⟨fun i b j hb hj => ?_, fun i hi => ?_, h.extra, by rw [show (fun j i => (A.turn k a').eff i = some j) = (fun j i => A.eff i = some j) by funext j i; rw [turn_eff ha h1 h2]]; exact h.acy⟩
  · rw [show (A.turn k a').acts.length = A.acts.length from List.length_set]
    by_cases e : i = k
    · subst e
      rw [turn_at ha, Option.some.injEq] at hb
      subst hb
      exact h.snd i a j ha (h2 ▸ hj)
    · rw [turn_ne e] at hb
      exact h.snd i b j hb hj
  · rw [turn_alive ha h1]
    exact h.act i hi
theorem alive_like {A A' : St} (h : A'.acts = A.acts) : A'.alive = A.alive := by funext k; unfold St.alive; rw [h]
theorem eff_like {A A' : St} (h : A'.acts = A.acts) : A'.eff = A.eff := by funext k; unfold St.eff; rw [h, alive_like h]
theorem Sn.like {A A' : St} (h : A'.acts = A.acts) {cx : Nat → Option Nat} {c e : Option Nat} (k : Sn A cx c e) : Sn A' cx c e := by
  cases c with
  | none => exact k
  | some c => obtain ⟨i, h1, h2⟩ := k; exact ⟨i, h1, by rw [alive_like h]; exact h2⟩
theorem Inv.like {T : Hp} {sb : Nat} {S : Sk} {A A' : St} {G : Gh} (I : Inv T sb S A G) (h1 : A'.acts = A.acts) (h2 : A'.cells = A.cells) (h3 : A'.most = A.most) (h4 : A'.named = A.named) (h5 : A'.extra = A.extra) : Inv T sb S A' G := by
  have hl : A'.living = A.living := by unfold St.living; rw [h1, h5]
  have hn : A'.num = A.num := by funext k; unfold St.num; rw [h4]
  refine { I with cells := by rw [h2]; exact I.cells, cmin := by rw [h2]; exact I.cmin, cmax := by rw [h2]; exact I.cmax, most := by rw [h3]; exact I.most, mmax := by rw [h3]; exact I.mmax, living := by rw [hl]; exact I.living, lmax := by rw [hl, h3]; exact I.lmax, page := ?_, ctx := ?_, here := by rw [alive_like h1]; exact I.here, nmd := by rw [h4]; exact I.nmd, nctx := by rw [h4]; exact I.nctx, nnd := by rw [h4]; exact I.nnd }
  · intro p hp
    obtain ⟨P, fl, cb, cl, k⟩ := I.page p hp
    refine ⟨P, fl, cb, cl, { k with cells := by rw [h2]; exact k.cells, cll := by rw [h2]; exact k.cll, fr := fun i F id h h' => ?_, below := fun id h => by rw [eff_like h1]; exact (k.below id h).like h1, link := by rw [eff_like h1]; exact k.link }⟩
    obtain ⟨a, ka⟩ := k.fr i F id h h'
    exact ⟨a, { ka with act := by rw [h1]; exact ka.act, fin := by rw [h2]; exact ka.fin }⟩
  · intro id c hc
    obtain ⟨C, a, k⟩ := I.ctx id c hc
    refine ⟨C, a, { k with act := by rw [h1]; exact k.act, number := by rw [hn]; exact k.number, lone := fun x y => ?_ }⟩
    obtain ⟨g1, g2, g3, g4, g5, g6, g7, g8⟩ := k.lone x y
    exact ⟨g1, g2, g3, g4, by rw [h2]; exact g5, g6, g7, by rw [eff_like h1]; exact g8.like h1⟩
theorem Acv.like {S : Sk} {A A' : St} {G : Gh} {e : Option Nat} (h : Acv S A G e) (h1 : A'.acts = A.acts) : Acv S A' G e := by
  cases e with
  | none => exact h
  | some k => exact ⟨by unfold St.alive; rw [h1]; exact h.1, h.2⟩
end Go.Proofs.Ytckfidopkajpaaa

/-
  A frame's place in full; one slot of a frame set; the active one's slot; Get, Set, Pop.
-/
namespace Go.Proofs.Ytckfidopkajpaaa
set_option linter.unusedVariables false
open Go.Sh Go.RowKit
set_option maxRecDepth 100000
variable {w : World} {T : Hp} {sb : Nat} {S : Sk} {A : St} {G : Gh}
/-- A frame's place. -/
structure FrAt (T : Hp) (A : St) (G : Gh) (p i id : Nat) (P : Pg) (fl L : List Fr) (fb cb : Nat) (cl : List Int) (F : Fr) (a : Ac) : Prop where
  hp : p ∈ G.pl
  hid : (G.fid p)[i]? = some id
  pg : PgOk T A G.cx p (G.fid p) P fl cb cl
  fa : P.frames.a = some ⟨fb, 0, none⟩
  at_ : T fb = some (.frs p L)
  ll : L.length = P.frames.cap
  lt : L.take fl.length = fl
  fi : fl[i]? = some F
  fr : FrOk A G.cx cl F id a
theorem Inv.frAt (I : Inv T sb S A G) {p i id : Nat} (hp : p ∈ G.pl) (hid : (G.fid p)[i]? = some id) {a : Ac} (hact : A.acts[id]? = some a) : ∃ P fl L fb cb cl F, FrAt T A G p i id P fl L fb cb cl F a := by
  obtain ⟨P, fl, cb, cl, fb, L, F, a', h1, h2, h3, h4, h5, h6, h7, h8⟩ := I.pageAt hp hid
  have : a' = a := by have := h7.act; rw [hact, Option.some.injEq] at this; exact this.symm
  subst this
  exact ⟨P, fl, L, fb, cb, cl, F, hp, hid, h1, h2, h3, h4, h5, h6, h7⟩
section
variable {p i id : Nat} {P : Pg} {fl L : List Fr} {fb cb : Nat} {cl : List Int} {F : Fr} {a : Ac}
theorem FrAt.f (h : FrAt T A G p i id P fl L fb cb cl F a) : L[i]? = some F := take_at h.lt h.fi
theorem FrAt.iL (h : FrAt T A G p i id P fl L fb cb cl F a) : i < L.length := by
  have hF := h.f
  rcases Nat.lt_or_ge i L.length with h | h
  · exact h
  · rw [List.getElem?_eq_none h] at hF; cases hF
theorem FrAt.len (h : FrAt T A G p i id P fl L fb cb cl F a) : (en (.frs p L)).length = 6 * L.length := flat_length fr_len L
theorem set_same {A : Type} {L : List A} {i : Nat} {x : A} (h : L[i]? = some x) : L.set i x = L := by
  apply List.ext_getElem?
  intro j
  by_cases e : j = i
  · subst e
    rw [h, List.getElem?_set_self (by
      rcases Nat.lt_or_ge j L.length with h' | h'
      · exact h'
      · rw [List.getElem?_eq_none h'] at h; cases h)]
  · rw [List.getElem?_set_ne (Ne.symm e)]
/-- One slot of a frame set. -/
theorem Inv.slotSet (I : Inv T sb S A G) (h : FrAt T A G p i id P fl L fb cb cl F a) {n : Nat} (hn : n < a.slots.length) (v : Int) :
    Inv (put T cb (.ints (.cells p) (cl.set (F.base.toNat + 4 + n) v))) sb S (A.turn id { a with slots := a.slots.set n v }) G := by
  have e1 := h.fr.depth; have e2 := h.fr.room; have e3 := h.fr.slots; have e4 := h.fr.base; have e5 := h.fr.fin; have e6 := h.fr.fits
  have hcl := h.pg.cll
  have hcm := I.cmax
  have hne : fb ≠ cb := by rintro rfl; have := h.pg.has; rw [h.at_] at this; cases this
  unfold Fr.fin at e5
  refine I.turn (F := F) (cl' := cl.set (F.base.toNat + 4 + n) v) (a' := { a with slots := a.slots.set n v }) h.hp h.hid h.pg h.fa h.at_ h.ll h.lt h.fi h.fr.act rfl rfl rfl rfl (List.length_set) e6 (List.length_set) ?_ ?_ ?_ (fun b o h n1 n2 => by rw [put_ne _ n2]; exact h) (by rw [put_ne _ hne, h.at_]; simp only; rw [← e1]; exact congrArg (fun l => some (Ob.frs p l)) (set_same h.f).symm) (put_eq _ _ _)
  · simp only [List.length_set]
    apply List.ext_getElem?
    intro j
    have hs : ∀ j, j < a.slots.length → cl[F.base.toNat + 4 + j]? = a.slots[j]? := by
      intro j hj
      conv => rhs; rw [← h.fr.hasS]
      rw [List.getElem?_take_of_lt hj, List.getElem?_drop]
    rcases Nat.lt_or_ge j a.slots.length with hj | hj
    · rw [List.getElem?_take_of_lt hj, List.getElem?_drop]
      by_cases e : j = n
      · subst e
        rw [List.getElem?_set_self (by omega), List.getElem?_set_self hj]
      · rw [List.getElem?_set_ne (by omega), List.getElem?_set_ne (Ne.symm e)]
        exact hs j hj
    · rw [List.getElem?_eq_none (by simp; omega), List.getElem?_eq_none (by simp; omega)]
  · simp only [List.length_set]
    rw [set_out (.inr (by omega))]
    exact h.fr.hasT
  · intro x k hx
    exact set_out (by unfold Fr.fin at hx; omega)
/-- One slot of a frame read. -/
theorem FrAt.slot (h : FrAt T A G p i id P fl L fb cb cl F a) {n : Nat} (hn : n < a.slots.length) : cl[F.base.toNat + 4 + n]? = some (a.slots.getD n 0) := by
  have : cl[F.base.toNat + 4 + n]? = a.slots[n]? := by
    conv => rhs; rw [← h.fr.hasS]
    rw [List.getElem?_take_of_lt hn, List.getElem?_drop]
  rw [this, List.getD_eq_getElem?_getD, List.getElem?_eq_getElem hn]
  rfl
end
theorem ok_tcases {α β : Type} {w0 : World} {T0 : Hp} (C : Tr en w0 T0 w T) {m : M β} {P : β → World → Hp → Prop} (hm : Sp m w T P) {f : β → M α} {Q : α → World → Prop} (hq : ∀ r w' T', Tr en w0 T0 w' T' → P r w' T' → Ok (f r) w' Q) : Ok (bnd m f) w Q := ok_tcall C hm hq
theorem rd_int {o : Ow} {cl : List Int} {k : Nat} {v : Int} (h : cl[k]? = some v) : rdv (.int .i64) (en (.ints o cl)).toArray k = some v := by
  have hk : k < cl.length := by
    rcases Nat.lt_or_ge k cl.length with h' | h'
    · exact h'
    · rw [List.getElem?_eq_none h'] at h; cases h
  have := flat_rdv (A := Int) (g := fun n => [Value.int .i64 n]) (n := 1) (t := .int .i64) (k := 0) (x := v) (fun _ => rfl) h (by decide) rfl
  rw [Nat.one_mul, Nat.add_zero] at this
  have e : (List.flatMap (fun n => [Value.int .i64 n]) cl) = en (.ints o cl) := by
    show _ = cl.map _
    clear this hk h
    induction cl with
    | nil => rfl
    | cons x l ih => rw [List.flatMap_cons, ih]; rfl
  rw [← e]; exact this
theorem slot_spec (h : Th en w T) (hs : Hs T sb A) (i : Int) : Sp (f35_frames_Stack_slot (pt (some sb)) i) w T fun r _ T' =>
    match A.act with
    | none => T' = T ∧ r = (none, 231)
    | some (k, a) => if i < 0 ∨ i ≥ a.slots.length then r = (none, 232) ∧ Hs T' sb A else
      ∃ S' G' p j P fl L fb cb cl F, Inv T' sb S' A G' ∧ Acv S' A G' A.active ∧ FrAt T' A G' p j k P fl L fb cb cl F a ∧ r = (some ⟨cb, F.base.toNat + 4 + i.toNat, none⟩, 0) := by
  unfold f35_frames_Stack_slot
  have C := Tr.refl h
  obtain ⟨hfit, S, G, I, hA⟩ := hs
  cases hact : A.act with
  | none =>
    have ha := St.act_none hfit hact
    rw [ha] at hA
    refine ok_trd C (active_none C.th I hA) fun w1 C => ?_
    exact ok_true rfl (ok_ret.2 ⟨T, C, rfl, rfl⟩)
  | some ka =>
    obtain ⟨k, a⟩ := ka
    obtain ⟨hk, ha⟩ := St.act_some hact
    rw [hk] at hA
    simp only
    refine ok_tcall C (active_some C.th I hA) ?_
    rintro _ w1 T1 C ⟨S1, G1, p, P, fb, k1, k2, I1, hp, t1, t2, hlast, hP, hfa, rfl⟩
    obtain ⟨hpos, hid⟩ := fid_last hlast
    obtain ⟨P', fl, L, fb', cb, cl, F, Z⟩ := I1.frAt hp hid ha
    have : P' = P := by have := Z.pg.page; rw [hP, Option.some.injEq, Ob.page.injEq] at this; exact this.symm
    subst this
    have : fb' = fb := by have := Z.fa; rw [hfa] at this; simp only [Option.some.injEq, Addr.mk.injEq, and_true] at this; exact this.symm
    subst this
    have hA1 := acv_top t1 t2 hp hA.1 hlast
    have e3 := Z.fr.slots; have e4 := Z.fr.base; have e5 := Z.fr.fin; have e2 := Z.fr.room
    have sm := Z.fr.small I1.cmax
    have hfit1 : A.Fit := hfit
    refine ok_false rfl ?_
    refine ok_bnd.2 (ok_mono (Q := fun (b : Bool) w' => b = decide (i < 0 ∨ i ≥ a.slots.length) ∧ w' = w1) ?_ ?_)
    · by_cases h0 : i < 0
      · exact ok_true (by simpa using h0) (ok_ret.2 ⟨by simp [h0], rfl⟩)
      · refine ok_false (by simpa using h0) ?_
        refine ok_drfS ?_
        refine ok_tld C Z.at_ (x := F.slots) (rd_fr Z.f (by decide) rfl) ?_
        refine ok_ret.2 ⟨?_, rfl⟩
        rw [e3]; simp [h0]
    · rintro _ _ ⟨rfl, rfl⟩
      by_cases hi : i < 0 ∨ i ≥ a.slots.length
      · refine ok_true (by simpa using hi) (ok_ret.2 ⟨T1, C, ?_⟩)
        show ite _ _ _
        rw [if_pos hi]
        exact ⟨rfl, hfit, S1, G1, I1, by rw [hk]; exact hA1⟩
      · refine ok_false (by simpa using hi) ?_
        refine ok_trd C (slots_spec C.th hP Z.at_ Z.f sm (by rw [Z.pg.cells]) (by rw [Z.pg.cells]; exact e5)) fun w2 C => ?_
        refine ok_ixP1 (b := cb) (off := F.base.toNat + 4) (by simp only; rw [if_neg (by omega)]; congr 2; omega) (by omega) (by simp only; omega) ?_
        refine ok_ret.2 ⟨T1, C, ?_⟩
        show ite _ _ _
        rw [if_neg hi]
        exact ⟨S1, G1, p, _, P', fl, L, fb', cb, cl, F, I1, by rw [hk]; exact hA1, Z, rfl⟩
theorem get_spec (h : Th en w T) (hs : Hs T sb A) (i : Int) : Sp (f13_frames_Stack_Get (pt (some sb)) i) w T fun r _ T' => r = A.get i ∧ Hs T' sb A := by
  unfold f13_frames_Stack_Get
  have C := Tr.refl h
  refine ok_tcall C (slot_spec C.th hs i) ?_
  unfold St.get
  intro r w1 T1 C hr
  cases hact : A.act with
  | none =>
    rw [hact] at hr
    obtain ⟨rfl, rfl⟩ := hr
    exact ok_true rfl (ok_ret.2 ⟨_, C, rfl, hs⟩)
  | some ka =>
    obtain ⟨k, a⟩ := ka
    rw [hact] at hr
    simp only at hr ⊢
    by_cases hi : i < 0 ∨ i ≥ a.slots.length
    · rw [if_pos hi] at hr ⊢
      obtain ⟨rfl, hr⟩ := hr
      exact ok_true rfl (ok_ret.2 ⟨_, C, rfl, hr⟩)
    · rw [if_neg hi] at hr ⊢
      obtain ⟨S', G', p, j, P, fl, L, fb, cb, cl, F, I, hA, Z, rfl⟩ := hr
      refine ok_false rfl ?_
      refine ok_drfS ?_
      refine ok_tld0 C Z.pg.has (x := a.slots.getD i.toNat 0) (rd_int (Z.slot (by omega))) ?_
      exact ok_ret.2 ⟨_, C, rfl, hs.1, S', G', I, hA⟩
theorem set_spec (h : Th en w T) (hs : Hs T sb A) (i v : Int) : Sp (f10_frames_Stack_Set (pt (some sb)) i v) w T fun r _ T' => r = (A.set i v).1 ∧ Hs T' sb (A.set i v).2 := by
  unfold f10_frames_Stack_Set
  have C := Tr.refl h
  refine ok_tcall C (slot_spec C.th hs i) ?_
  unfold St.set
  intro r w1 T1 C hr
  cases hact : A.act with
  | none =>
    rw [hact] at hr
    obtain ⟨rfl, rfl⟩ := hr
    exact ok_bnd.2 (ok_false rfl (ok_ret.2 (ok_ret.2 ⟨_, C, rfl, hs⟩)))
  | some ka =>
    obtain ⟨k, a⟩ := ka
    obtain ⟨hk, ha⟩ := St.act_some hact
    rw [hact] at hr
    simp only at hr ⊢
    by_cases hi : i < 0 ∨ i ≥ a.slots.length
    · rw [if_pos hi] at hr ⊢
      obtain ⟨rfl, hr⟩ := hr
      exact ok_bnd.2 (ok_false rfl (ok_ret.2 (ok_ret.2 ⟨_, C, rfl, hr⟩)))
    · rw [if_neg hi] at hr ⊢
      obtain ⟨S', G', p, j, P, fl, L, fb, cb, cl, F, I, hA, Z, rfl⟩ := hr
      have hcl := Z.pg.cll; have e5 := Z.fr.fin; have e3 := Z.fr.slots; have e4 := Z.fr.base; have e2 := Z.fr.room
      unfold Fr.fin at e5
      refine ok_bnd.2 (ok_true rfl ?_)
      refine ok_drfS ?_
      refine ok_twr0 C (.ints (.cells p) (cl.set (F.base.toNat + 4 + i.toNat) v)) Z.pg.has (by simp [en]; omega) rfl (wr_int (by omega)) fun w2 C => ?_
      refine ok_ret.2 (ok_ret.2 ⟨_, C, rfl, hs.1.turn ha rfl rfl, S', G', I.slotSet Z (by omega) v, ?_⟩)
      show Acv S' _ G' A.active
      rw [hk] at hA ⊢
      exact ⟨(turn_alive (a' := { a with slots := a.slots.set i.toNat v }) ha rfl k).trans hA.1, hA.2⟩
end Go.Proofs.Ytckfidopkajpaaa

/-
  Push and Pop, in full.
-/
namespace Go.Proofs.Ytckfidopkajpaaa
set_option linter.unusedVariables false
open Go.Sh Go.RowKit
set_option maxRecDepth 100000
variable {w : World} {T : Hp} {sb : Nat} {S : Sk} {A : St} {G : Gh}
/-- What is known of the contexts stays known. -/
def Ext (G G' : Gh) : Prop := ∀ k b, G.cx k = some b → G'.cx k = some b
theorem pushX (h : Th en w T) (hf : A.Fit) (I : Inv T sb S A G) (hA : Acv S A G A.active) (v : Int) : Sp (f9_frames_Stack_Push (pt (some sb)) v) w T fun r _ T' => r = (A.push v).1 ∧ ∃ S' G', Inv T' sb S' (A.push v).2 G' ∧ Acv S' (A.push v).2 G' A.active ∧ Ext G G' := by
  unfold St.push
  cases hact : A.act with
  | none =>
    have ha := St.act_none hf hact
    rw [ha] at hA
    refine ok_mono (push_none h I hA v) ?_
    rintro r w' ⟨T', C, rfl, rfl⟩
    exact ⟨_, C, rfl, S, G, I, by rw [ha]; exact hA, fun _ _ h => h⟩
  | some ka =>
    obtain ⟨k, a⟩ := ka
    obtain ⟨hk, ha⟩ := St.act_some hact
    rw [hk] at hA ⊢
    simp only
    by_cases hr : a.room ≤ a.stack.length
    · rw [if_pos hr]
      refine ok_mono (push_full h I hA ha hr v) ?_
      rintro r w' ⟨T', C, rfl, S', G', h1, h2, h3⟩
      exact ⟨_, C, rfl, S', G', h1, h2, h3⟩
    · rw [if_neg hr]
      refine ok_mono (push_room h I hA ha (by omega) v) ?_
      rintro r w' ⟨T', C, rfl, S', G', h1, h2, h3⟩
      exact ⟨_, C, rfl, S', G', h1, h2, h3⟩
theorem St.Fit.push {A : St} (h : A.Fit) (v : Int) : (A.push v).2.Fit := by
  unfold St.push
  cases hact : A.act with
  | none => exact h
  | some ka =>
    obtain ⟨k, a⟩ := ka
    obtain ⟨hk, ha⟩ := St.act_some hact
    simp only
    split
    · exact h
    · exact h.turn ha rfl rfl
theorem St.push_active {A : St} (v : Int) : (A.push v).2.active = A.active := by
  unfold St.push
  split
  · rfl
  · split <;> rfl
theorem push_spec (h : Th en w T) (hs : Hs T sb A) (v : Int) : Sp (f9_frames_Stack_Push (pt (some sb)) v) w T fun r _ T' => r = (A.push v).1 ∧ Hs T' sb (A.push v).2 := by
  obtain ⟨hf, S, G, I, hA⟩ := hs
  refine ok_mono (pushX h hf I hA v) ?_
  rintro r w' ⟨T', C, h1, S', G', h2, h3, _⟩
  exact ⟨T', C, h1, hf.push v, S', G', h2, by rw [St.push_active]; exact h3⟩
theorem pop_spec (h : Th en w T) (hs : Hs T sb A) : Sp (f12_frames_Stack_Pop (pt (some sb))) w T fun r _ T' => r = A.pop.1 ∧ Hs T' sb A.pop.2 := by
  unfold f12_frames_Stack_Pop St.pop
  have C := Tr.refl h
  have hs0 := hs
  obtain ⟨hfit, S, G, I, hA⟩ := hs
  cases hact : A.act with
  | none =>
    have ha := St.act_none hfit hact
    rw [ha] at hA
    refine ok_trd C (active_none C.th I hA) fun w1 C => ?_
    exact ok_true rfl (ok_ret.2 ⟨T, C, rfl, hs0⟩)
  | some ka =>
    obtain ⟨k, a⟩ := ka
    obtain ⟨hk, ha⟩ := St.act_some hact
    rw [hk] at hA
    simp only
    refine ok_tcall C (active_some C.th I hA) ?_
    rintro _ w1 T1 C ⟨S1, G1, p, P, fb, k1, k2, I1, hp, t1, t2, hlast, hP, hfa, rfl⟩
    obtain ⟨hpos, hid⟩ := fid_last hlast
    obtain ⟨P', fl, L, fb', cb, cl, F, Z⟩ := I1.frAt hp hid ha
    have : P' = P := by have := Z.pg.page; rw [hP, Option.some.injEq, Ob.page.injEq] at this; exact this.symm
    subst this
    have : fb' = fb := by have := Z.fa; rw [hfa] at this; simp only [Option.some.injEq, Addr.mk.injEq, and_true] at this; exact this.symm
    subst this
    have hA1 := acv_top t1 t2 hp hA.1 hlast
    have e1 := Z.fr.depth; have e3 := Z.fr.slots; have e4 := Z.fr.base; have e5 := Z.fr.fin; have e2 := Z.fr.room; have e6 := Z.fr.fits
    have sm := Z.fr.small I1.cmax
    have hcm := I1.cmax
    have e7 := e5
    unfold Fr.fin at e7
    refine ok_false rfl ?_
    refine ok_drfS ?_
    refine ok_tld C Z.at_ (x := F.depth) (rd_fr Z.f (by decide) rfl) ?_
    cases hl : a.stack.getLast? with
    | none =>
      have h0 : a.stack = [] := List.getLast?_eq_none_iff.1 hl
      refine ok_true (by rw [e1, h0]; rfl) (ok_ret.2 ⟨T1, C, rfl, hfit, S1, G1, I1, by rw [hk]; exact hA1⟩)
    | some v =>
      have hne : a.stack ≠ [] := by rintro h0; rw [h0] at hl; cases hl
      have hpl := List.length_pos_iff.2 hne
      refine ok_false (by rw [e1]; simp only [beq_eq_false_iff_ne, ne_eq]; omega) ?_
      simp only [bnd_as]
      refine ok_tord C fun o w2 C => ?_
      refine ok_drfS ?_
      refine ok_tld C Z.at_ (x := F.depth) (rd_fr Z.f (by decide) rfl) ?_
      refine ok_trd C (stack_spec C.th hP Z.at_ Z.f sm (by rw [Z.pg.cells]) (by rw [Z.pg.cells]; exact e5)) fun w3 C => ?_
      refine ok_tchk C Z.at_ (rd_fr Z.f (by decide) rfl) ?_
      simp only [bnd_ret]
      have ex : IntKind.wrap .i64 (F.depth - 1) = ((a.stack.length - 1 : Nat) : Int) := by rw [wrapI_in (by omega)]; omega
      rw [ex]
      unfold Fr.fin at e5
      refine ok_ixP1 (b := cb) (off := F.base.toNat + 4 + a.slots.length) (by simp only; rw [if_neg (by omega)]; congr 2; omega) (by omega) (by simp only; omega) ?_
      rw [Int.toNat_natCast]
      have hv : cl[F.base.toNat + 4 + a.slots.length + (a.stack.length - 1)]? = some v := by
        rw [← hl, List.getLast?_eq_getElem?]
        conv => rhs; rw [← Z.fr.hasT]
        rw [List.getElem?_take_of_lt (by rw [Z.fr.hasT]; omega), List.getElem?_drop, Z.fr.hasT]
      refine ok_tld0 C Z.pg.has (x := v) (rd_int hv) ?_
      refine ok_drfS ?_
      refine ok_tld C Z.at_ (x := F.depth) (rd_fr Z.f (by decide) rfl) ?_
      refine ok_drfS ?_
      rw [ex]
      refine ok_twr C (.frs p (L.set ((G1.fid p).length - 1) { F with depth := ((a.stack.length - 1 : Nat) : Int) })) Z.at_ (by rw [Z.len]; have := Z.iL; simp; omega) rfl (wr_fr Z.f (by simp) rfl) fun w4 C => ?_
      have hcb : fb' ≠ cb := by rintro rfl; have := Z.pg.has; rw [Z.at_] at this; cases this
      refine ok_ret.2 ⟨_, C, rfl, hfit.turn ha rfl rfl, S1, G1, ?_, ?_⟩
      · refine I1.turn (F := F) (cl' := cl) (a' := { a with stack := a.stack.dropLast }) hp hid Z.pg hfa Z.at_ Z.ll Z.lt Z.fi ha rfl rfl rfl rfl rfl (by simp; omega) rfl Z.fr.hasS ?_ (fun _ _ _ => rfl) (fun b o h n1 n2 => by rw [put_ne _ n1]; exact h) (by rw [put_eq]; simp) (by rw [put_ne _ (Ne.symm hcb)]; exact Z.pg.has)
        simp only [List.length_dropLast]
        have := congrArg List.dropLast Z.fr.hasT
        rw [List.dropLast_eq_take, List.take_take, List.length_take] at this
        rw [← this]
        congr 1
        have h9 := congrArg List.length Z.fr.hasT
        rw [List.length_take] at h9
        omega
      · show Acv S1 _ G1 A.active
        rw [hk]
        exact acv_top t1 t2 hp ((turn_alive (a' := { a with stack := a.stack.dropLast }) ha rfl k).trans hA.1) hlast
end Go.Proofs.Ytckfidopkajpaaa
