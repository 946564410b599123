/-
  Parts of the proof: RA, RB, RC. It states what the functions do; no further condition.
-/
import Derived.Test.YtckfidopkajpaaaFCg
set_option linter.unusedVariables false
set_option linter.unusedSimpArgs false
/-
  The reference's stack, as typed things.
-/
namespace Go.Proofs.Ytckfidopkajpaaa
set_option linter.unusedVariables false
open Go.Sh Go.RowKit
set_option maxRecDepth 100000
structure Ra where
  method : Int
  slots : Sl
  stack : Sl
  room : Int
  sender : Int
  alive : Bool
  context : Int
structure Rk where
  cells : Int
  most : Int
  all : Sl
  active : Int
  named : Sl
  living : Int
def Ra.en (r : Ra) : List Value := [.int .i64 r.method, slV r.slots, slV r.stack, .int .i64 r.room, .int .i64 r.sender, .bool r.alive, .int .i64 r.context]
def Rk.en (s : Rk) : List Value := [.int .i64 s.cells, .int .i64 s.most, slV s.all, .int .i64 s.active, slV s.named, .int .i64 s.living]
def iV (n : Int) : List Value := [.int .i64 n]
inductive Rb where
  | stk (s : Rk)
  | rows (l : List Ra)
  | named (l : List Int)
  | ints (k : Nat) (t : Bool) (l : List Int)
def ren : Rb → List Value
  | .stk s => s.en
  | .rows l => l.flatMap Ra.en
  | .named l => l.flatMap iV
  | .ints _ _ l => l.flatMap iV
abbrev Rp := Nat → Option Rb
theorem row83 : RowT Try.prog 83 104 Ra.en 7 ⟨0, ⟨none, 0, 0⟩, ⟨none, 0, 0⟩, 0, 0, false, 0⟩ 88 :=
  ⟨by kernel_rfl, ⟨Try.t104, .agg #[.int .i64 0, .slice none 0 0, .slice none 0 0, .int .i64 0, .int .i64 0, .bool false, .int .i64 0], by kernel_rfl, rfl, rfl, rfl, rfl⟩, by decide, fun _ => rfl, fun b u hu => by
    simp only [Ra.en, List.mem_cons, List.not_mem_nil, or_false] at hu
    rcases hu with rfl | rfl | rfl | rfl | rfl | rfl | rfl <;> rfl⟩
theorem rowI {n : Int} {u : Value} (hu : u ∈ iV n) : u.oneCell' = true := by
  simp only [iV, List.mem_singleton] at hu; subst hu; rfl
theorem row84 : RowT Try.prog 84 3 iV 1 0 8 :=
  ⟨by kernel_rfl, ⟨Try.t3, .int .i64 0, by kernel_rfl, rfl, rfl, rfl, rfl⟩, by decide, fun _ => rfl, fun _ _ => rowI⟩
theorem row22 : RowT Try.prog 22 2 iV 1 0 8 :=
  ⟨by kernel_rfl, ⟨Try.t2, .int .i64 0, by kernel_rfl, rfl, rfl, rfl, rfl⟩, by decide, fun _ => rfl, fun _ _ => rowI⟩
def enum : Option Nat → Int
  | none => -1
  | some k => k
theorem enum_neg {e : Option Nat} : enum e < 0 ↔ e = none := by
  cases e with
  | none => simp [enum]
  | some k => simp [enum]
structure RaOk (T : Rp) (A : St) (k : Nat) (a : Ac) (r : Ra) : Prop where
  method : r.method = a.method
  room : r.room = a.room
  sender : r.sender = enum a.sender
  alive : r.alive = a.alive
  ctx : r.context = A.num k
  slots : Rw T (Rb.ints k false) r.slots a.slots
  stack : Rw T (Rb.ints k true) r.stack a.stack
structure RInv (T : Rp) (sb : Nat) (S : Rk) (L : List Ra) (A : St) : Prop where
  stk : T sb = some (.stk S)
  cells : S.cells = A.cells
  most : S.most = A.most
  living : S.living = A.living
  cmax : A.cells ≤ 4096
  mmax : A.most ≤ 65536
  lmax : A.living ≤ A.most
  active : S.active = enum A.active
  all : Rw T Rb.rows S.all L
  len : L.length = A.acts.length
  each : ∀ k a r, A.acts[k]? = some a → L[k]? = some r → RaOk T A k a r
  nmd : Rw T Rb.named S.named (A.named.map fun (k : Nat) => (k : Int))
  nlt : ∀ k ∈ A.named, k < A.acts.length
  small : ∀ (k : Nat) a, A.acts[k]? = some a → a.room ≤ 4096 ∧ a.slots.length ≤ 4096
def Rs (T : Rp) (sb : Nat) (A : St) : Prop := ∃ S L, RInv T sb S L A
/-- One row's place. -/
structure RAt (T : Rp) (S : Rk) (k : Nat) (r : Ra) (b : Nat) (L' : List Ra) : Prop where
  a : S.all.a = some ⟨b, 0, none⟩
  at_ : T b = some (.rows L')
  get : L'[k]? = some r
  lt : k < S.all.len
theorem RInv.at {T : Rp} {sb : Nat} {S : Rk} {L : List Ra} {A : St} (I : RInv T sb S L A) {k : Nat} {a : Ac} (hk : A.acts[k]? = some a) : ∃ r b L', L[k]? = some r ∧ RAt T S k r b L' ∧ RaOk T A k a r ∧ L'.take L.length = L ∧ L'.length = S.all.cap := by
  have hlt : k < L.length := by
    rw [I.len]
    rcases Nat.lt_or_ge k A.acts.length with h | h
    · exact h
    · rw [List.getElem?_eq_none h] at hk; cases hk
  obtain ⟨b, L', h1, h2, h3, h4⟩ := I.all.blk (by omega)
  refine ⟨L[k], b, L', List.getElem?_eq_getElem hlt, ⟨h1, h2, ?_, by rw [I.all.len]; exact hlt⟩, I.each k a _ hk (List.getElem?_eq_getElem hlt), h4, h3⟩
  have : (L'.take L.length)[k]? = L'[k]? := by rw [List.getElem?_take_of_lt hlt]
  rw [← this, h4, List.getElem?_eq_getElem hlt]
section
variable {w0 w : World} {T0 T : Rp} {sb : Nat} {S : Rk} {L L' : List Ra} {A : St} {k b : Nat} {r : Ra} {α : Type} {Q : α → World → Prop}
theorem ok_rix (at_ : RAt T S k r b L') {i : Int} (hi : i = k) {f : Addr → M α} (hq : Ok (f ⟨b, 7 * k, none⟩) w Q) : Ok (bnd (ix 7 S.all i) f) w Q := by
  subst hi
  refine ok_ixN at_.a (by omega) (by have := at_.lt; omega) ?_
  rw [Int.toNat_natCast]
  exact hq
theorem ok_rld (C : Tr ren w0 T0 w T) (at_ : RAt T S k r b L') {j : Nat} {t : Ty} {x : t.den} (hj : j + t.size ≤ 7) (hx : rdv t (Ra.en r).toArray j = some x) {f : t.den → M α} (hq : Ok (f x) w Q) : Ok (bnd (ld t (Addr.add ⟨b, 7 * k, none⟩ j)) f) w Q :=
  ok_tld C at_.at_ (flat_rdv (g := Ra.en) (fun _ => rfl) at_.get hj hx) hq
theorem ok_rwr (C : Tr ren w0 T0 w T) (at_ : RAt T S k r b L') (r' : Ra) {j : Nat} {vs : List Value} (hj : j + vs.length ≤ 7) (ha : vs.all single = true) (hs : spl (Ra.en r) j vs = Ra.en r') {f : Unit → M α} (hq : ∀ w', Tr ren w0 T0 w' (put T b (.rows (L'.set k r'))) → Ok (f ()) w' Q) : Ok (bnd (wrs (Addr.add ⟨b, 7 * k, none⟩ j) 0 vs) f) w Q := by
  have hlt : k < L'.length := by
    rcases Nat.lt_or_ge k L'.length with h | h
    · exact h
    · have := at_.get; rw [List.getElem?_eq_none h] at this; cases this
  refine ok_twr C (.rows (L'.set k r')) at_.at_ ?_ ha (flat_spl (g := Ra.en) (fun _ => rfl) at_.get hj hs) hq
  show _ ≤ (L'.flatMap Ra.en).length
  rw [flat_length (g := Ra.en) (n := 7) (fun _ => rfl)]
  have : 7 * k + 7 ≤ 7 * L'.length := by rw [← Nat.mul_succ]; exact Nat.mul_le_mul_left _ hlt
  omega
theorem RAt.set (at_ : RAt T S k r b L') (I : RInv T sb S L A) (h4 : L'.take L.length = L) (h3 : L'.length = S.all.cap) (r' : Ra) : Rw (put T b (.rows (L'.set k r'))) Rb.rows S.all (L.set k r') := by
  refine ⟨by rw [List.length_set]; exact I.all.len, I.all.le, I.all.max, .inr ⟨b, _, at_.a, put_eq _ _ _, by rw [List.length_set]; exact h3, ?_⟩⟩
  rw [List.length_set, List.take_set, h4]
theorem rput_other {T : Rp} {b x : Nat} {o o' p : Rb} (hx : T x = some o) (hb : T b = some o') (hne : o ≠ o') : put T b p x = some o := by
  rw [put_ne]
  · exact hx
  · rintro rfl
    rw [hx, Option.some.injEq] at hb
    exact hne hb
theorem rput_new {T : Rp} {b x : Nat} {o p : Rb} (hx : T x = some o) (hb : T b = none) : put T b p x = some o := by
  rw [put_ne]
  · exact hx
  · rintro rfl
    rw [hx] at hb; cases hb
theorem RaOk.mono {T2 : Rp} {A2 : St} {a : Ac} (h : RaOk T A k a r) (hT : ∀ b t l, T b = some (.ints k t l) → T2 b = some (.ints k t l)) (hn : A2.num k = A.num k) : RaOk T2 A2 k a r :=
  { h with ctx := by rw [hn]; exact h.ctx, slots := h.slots.mono fun b L _ hb => hT _ _ _ hb, stack := h.stack.mono fun b L _ hb => hT _ _ _ hb }
theorem turn_num {a : Ac} (j : Nat) : (A.turn k a).num j = A.num j := rfl
/-- One activation is another now. -/
theorem RInv.turnR (I : RInv T sb S L A) {a a' : Ac} {r' : Ra} {T2 : Rp} {S2 : Rk} (hk : A.acts[k]? = some a) (h' : RaOk T2 A k a' r') (hall : Rw T2 Rb.rows S2.all (L.set k r')) (hstk : T2 sb = some (.stk S2))
    (hS : S2.cells = S.cells ∧ S2.most = S.most ∧ S2.active = S.active ∧ S2.named = S.named) (hl : S2.living = (A.turn k a').living) (hlm : (A.turn k a').living ≤ A.most)
    (hints : ∀ b j t l, j ≠ k → T b = some (.ints j t l) → T2 b = some (.ints j t l)) (hn : ∀ b l, T b = some (.named l) → T2 b = some (.named l)) (hr : a'.room ≤ 4096 ∧ a'.slots.length ≤ 4096) : RInv T2 sb S2 (L.set k r') (A.turn k a') := by
  refine { I with stk := hstk, cells := hS.1.trans I.cells, most := hS.2.1.trans I.most, living := hl, lmax := hlm, active := hS.2.2.1.trans I.active, all := hall, len := by rw [List.length_set, turn_len]; exact I.len, each := ?_, nmd := by rw [hS.2.2.2]; exact I.nmd.mono fun b L _ hb => hn _ _ hb, nlt := fun k hk => by rw [turn_len]; exact I.nlt k hk, small := ?_ }
  · intro j aj rj h1 h2
    by_cases e : j = k
    · subst e
      rw [turn_at hk, Option.some.injEq] at h1
      subst h1
      have hlt : j < L.length := by
        rcases Nat.lt_or_ge j L.length with h | h
        · exact h
        · rw [List.getElem?_eq_none (by rw [List.length_set]; exact h)] at h2; cases h2
      rw [List.getElem?_set_self hlt, Option.some.injEq] at h2
      subst h2
      exact { h' with ctx := h'.ctx }
    · rw [turn_ne e] at h1
      rw [List.getElem?_set_ne (Ne.symm e)] at h2
      exact (I.each j aj rj h1 h2).mono (fun b t l hb => hints b j t l e hb) rfl
  · intro j aj h1
    by_cases e : j = k
    · subst e
      rw [turn_at hk, Option.some.injEq] at h1
      subst h1; exact hr
    · rw [turn_ne e] at h1
      exact I.small j aj h1
/-- Who is active is another now. -/
theorem RInv.on (I : RInv T sb S L A) (e : Option Nat) : RInv (put T sb (.stk { S with active := enum e })) sb { S with active := enum e } L (A.on e) :=
  { I with
    stk := put_eq _ _ _, active := rfl, all := I.all.mono fun b L _ hb => rput_other hb I.stk (by simp), nmd := I.nmd.mono fun b L _ hb => rput_other hb I.stk (by simp)
    each := fun k a r h1 h2 => (I.each k a r h1 h2).mono (fun b t l hb => rput_other hb I.stk (by simp)) rfl }
end
end Go.Proofs.Ytckfidopkajpaaa

/-
  The reference: New, of, sender, ends, Get, Set, Push, Pop.
-/
namespace Go.Proofs.Ytckfidopkajpaaa
set_option linter.unusedVariables false
open Go.Sh Go.RowKit
set_option maxRecDepth 100000
def Sr {β : Type} (m : M β) (w : World) (T : Rp) (P : β → World → Rp → Prop) : Prop := Ok m w fun r w' => ∃ T', Tr ren w T w' T' ∧ P r w' T'
section
variable {w0 w : World} {T0 T : Rp} {sb : Nat} {S : Rk} {L L' : List Ra} {A : St} {k b : Nat} {r : Ra} {α β : Type} {Q : α → World → Prop}
theorem ok_rcall (C : Tr ren w0 T0 w T) {m : M β} {P : β → World → Rp → Prop} (hm : Sr m w T P) {f : β → M α} (hq : ∀ r w' T', Tr ren w0 T0 w' T' → P r w' T' → Ok (f r) w' Q) : Ok (bnd m f) w Q := by
  refine ok_bnd.2 (ok_mono hm ?_)
  rintro r w' ⟨T', C', h⟩
  exact hq r w' T' (C.trans C') h
theorem rnew_spec (h : Th ren w T) (x0 x1 x2 : Int) : Sr (f15_palaverref23_New x0 x1 x2) w T fun r _ T' => (newBad x0 x1 x2 = true ∧ T' = T ∧ r = (none, 230)) ∨ (newBad x0 x1 x2 = false ∧ ∃ sb, r = (pt (some sb), 0) ∧ Rs T' sb (St.new x1.toNat x2.toNat)) := by
  unfold f15_palaverref23_New
  have C := Tr.refl h
  have hnb := newBad_eq x0 x1 x2
  by_cases hb : newBad x0 x1 x2 = true
  · refine ok_true hb (ok_ret.2 ⟨T, C, .inl ⟨hb, rfl, rfl⟩⟩)
  rw [Bool.not_eq_true] at hb
  refine ok_false hb ?_
  rw [hb] at hnb
  have hn := of_decide_eq_false hnb.symm
  refine ok_tnew C (.stk ⟨x1, x2, ⟨none, 0, 0⟩, -1, ⟨none, 0, 0⟩, 0⟩) rfl fun p w1 hp C => ?_
  refine ok_ret.2 ⟨_, C, .inr ⟨hb, p, rfl, _, [], put_eq _ _ _, ?_, ?_, rfl, ?_, ?_, ?_, rfl, rw_nil _ _, rfl, ?_, rw_nil _ _, ?_, ?_⟩⟩
  · show x1 = ((x1.toNat : Nat) : Int); omega
  · show x2 = ((x2.toNat : Nat) : Int); omega
  · show x1.toNat ≤ 4096; omega
  · show x2.toNat ≤ 65536; omega
  · show 0 ≤ x2.toNat; omega
  · intro k a r h1; cases h1
  · intro k hk; cases hk
  · intro k a h1; cases h1
theorem named_lt (I : RInv T sb S L A) : S.named.len = A.named.length := by rw [I.nmd.len]; simp
theorem rof_spec (h : Th ren w T) (hnm : A.named.length ≤ 4000000000000) (I : RInv T sb S L A) (x : Int) : Sr (f77_palaverref23_Stack_of (pt (some sb)) x) w T fun r _ T' => T' = T ∧ ((∃ k a, A.of x = (some k, 0) ∧ A.acts[k]? = some a ∧ a.alive = true ∧ r = ((k : Int), 0)) ∨ ∃ e, A.of x = (none, e) ∧ e ≠ 0 ∧ r = (-1, e)) := by
  unfold f77_palaverref23_Stack_of St.of
  have C := Tr.refl h
  have hnl := named_lt I
  refine ok_bnd.2 (ok_mono (Q := fun b w' => b = decide (x < 1 ∨ x > A.named.length) ∧ w' = w) ?_ ?_)
  · by_cases hx : x < 1
    · exact ok_true (by simpa using hx) (ok_ret.2 ⟨by simp [hx], rfl⟩)
    · refine ok_false (by simpa using hx) ?_
      refine ok_drfP ?_
      refine ok_tld C I.stk (x := S.named) rfl (ok_ret.2 ⟨?_, rfl⟩)
      rw [hnl]; simp [hx]
  rintro b w1 ⟨hb, e1⟩
  subst e1
  by_cases hx : x < 1 ∨ x > A.named.length
  · rw [if_pos hx]
    exact ok_true (by rw [hb]; simpa using hx) (ok_ret.2 ⟨T, C, rfl, .inr ⟨234, rfl, by decide, rfl⟩⟩)
  rw [if_neg hx]
  refine ok_false (by rw [hb]; simpa using hx) ?_
  refine ok_drfP ?_
  refine ok_tld C I.stk (x := S.named) rfl ?_
  obtain ⟨i, rfl⟩ : ∃ i : Nat, x = (i : Int) + 1 := ⟨(x - 1).toNat, by omega⟩
  have hi : i < A.named.length := by omega
  rw [wrapI_in (by omega), show ((i : Int) + 1 - 1) = (i : Int) by omega, Int.toNat_natCast]
  obtain ⟨nb, NL, g1, g2, g3, g4⟩ := I.nmd.blk (by simp; omega)
  refine ok_ixN g1 (by omega) (by omega) ?_
  rw [Int.toNat_natCast]
  have hN : NL[i]? = some ((A.named[i] : Nat) : Int) := by
    have : (NL.take (A.named.map fun (k : Nat) => (k : Int)).length)[i]? = NL[i]? := by rw [List.getElem?_take_of_lt (by simp; omega)]
    rw [← this, g4, List.getElem?_map, List.getElem?_eq_getElem hi]; rfl
  refine ok_tld0 C g2 (x := ((A.named[i] : Nat) : Int)) (flat_rdv (g := iV) (n := 1) (fun _ => rfl) (k := 0) hN (by decide) rfl) ?_
  rw [List.getElem?_eq_getElem hi]
  have hk := I.nlt A.named[i] (List.getElem_mem _)
  generalize A.named[i] = k at hk
  obtain ⟨r, b, L', hr, at_, ra, _⟩ := I.at (List.getElem?_eq_getElem hk)
  refine ok_drfP ?_
  refine ok_tld C I.stk (x := S.all) rfl ?_
  refine ok_rix at_ rfl ?_
  refine ok_rld C at_ (x := r.alive) (by decide) rfl ?_
  have hal : A.alive k = r.alive := by unfold St.alive; rw [List.getElem?_eq_getElem hk, ra.alive]
  cases hv : r.alive with
  | false =>
    rw [hv] at hal
    simp only [hal]
    exact ok_true rfl (ok_ret.2 ⟨T, C, rfl, .inr ⟨235, rfl, by decide, rfl⟩⟩)
  | true =>
    rw [hv] at hal
    simp only [hal]
    exact ok_false rfl (ok_ret.2 ⟨T, C, rfl, .inl ⟨k, _, rfl, List.getElem?_eq_getElem hk, by rw [← ra.alive]; exact hv, rfl⟩⟩)
theorem rsender_spec (h : Th ren w T) (hf : ∀ (k : Nat) a j, A.acts[k]? = some a → a.sender = some j → j < A.acts.length) (I : RInv T sb S L A) {a : Ac} (hk : A.acts[k]? = some a) {i : Int} (hi : i = k) : Sr (f73_palaverref23_Stack_sender (pt (some sb)) i) w T fun r _ T' => T' = T ∧ r = enum (A.eff k) := by
  unfold f73_palaverref23_Stack_sender
  have C := Tr.refl h
  obtain ⟨r, b, L', hr, at_, ra, _⟩ := I.at hk
  refine ok_drfP ?_
  refine ok_tld C I.stk (x := S.all) rfl ?_
  refine ok_rix at_ hi ?_
  refine ok_rld C at_ (x := r.sender) (by decide) rfl ?_
  have he : A.eff k = match a.sender with
    | some j => if A.alive j then some j else none
    | none => none := by unfold St.eff; rw [hk]; rfl
  have hs := ra.sender
  cases hse : a.sender with
  | none =>
    rw [hse] at hs he
    have hs : r.sender = -1 := hs
    refine ok_bnd.2 (ok_false (by rw [hs]; rfl) (ok_ret.2 ?_))
    refine ok_false rfl (ok_ret.2 ⟨T, C, rfl, ?_⟩)
    rw [he, hs]; rfl
  | some j =>
    rw [hse] at hs he
    have hs : r.sender = (j : Int) := hs
    have hj := hf k a j hk hse
    obtain ⟨r2, b2, L2, hr2, at2, ra2, _⟩ := I.at (List.getElem?_eq_getElem hj)
    refine ok_bnd.2 (ok_true (by rw [hs]; simp) ?_)
    refine ok_drfP ?_
    refine ok_tld C I.stk (x := S.all) rfl ?_
    refine ok_rix at2 hs ?_
    refine ok_rld C at2 (x := r2.alive) (by decide) rfl (ok_ret.2 ?_)
    have hal : A.alive j = r2.alive := by unfold St.alive; rw [List.getElem?_eq_getElem hj, ra2.alive]
    rw [← hal]
    simp only at he
    cases hv : A.alive j with
    | false =>
      rw [hv] at he
      exact ok_true rfl (ok_ret.2 ⟨T, C, rfl, by rw [he]; rfl⟩)
    | true =>
      rw [hv] at he
      exact ok_false rfl (ok_ret.2 ⟨T, C, rfl, by rw [he, hs]; rfl⟩)
theorem rends_spec (h : Th ren w T) (I : RInv T sb S L A) {a : Ac} (hk : A.acts[k]? = some a) (hal : a.alive = true) {i : Int} (hi : i = k) : Sr (f74_palaverref23_Stack_ends (pt (some sb)) i) w T fun _ _ T' => Rs T' sb (A.die k) := by
  unfold f74_palaverref23_Stack_ends
  have C := Tr.refl h
  obtain ⟨r, b, L', hr, at_, ra, h4, h3⟩ := I.at hk
  refine ok_drfP ?_
  refine ok_tld C I.stk (x := S.all) rfl ?_
  refine ok_rix at_ hi ?_
  refine ok_rwr C at_ { r with alive := false } (by decide) rfl rfl fun w1 C => ?_
  have hs1 : put T b (.rows (L'.set k { r with alive := false })) sb = some (.stk S) := rput_other I.stk at_.at_ (by simp)
  refine ok_drfP ?_
  refine ok_tld C hs1 (x := S.living) rfl ?_
  refine ok_drfP ?_
  have hd := die_living hk hal
  have hlv := I.living
  have hlm := I.lmax
  have hmm := I.mmax
  refine ok_twr C (.stk { S with living := IntKind.wrap .i64 (S.living - 1) }) hs1 (by simp [ren, Rk.en]) rfl rfl fun w2 C => ?_
  refine ok_ret.2 ⟨_, C, { S with living := IntKind.wrap .i64 (S.living - 1) }, L.set k { r with alive := false }, ?_⟩
  rw [die_def hk] at hd ⊢
  have keep : ∀ c o, T c = some o → (∀ l, o ≠ .rows l) → (∀ s, o ≠ .stk s) → put (put T b (.rows (L'.set k { r with alive := false }))) sb (.stk { S with living := IntKind.wrap .i64 (S.living - 1) }) c = some o := fun c o hc n1 n2 =>
    rput_other (rput_other hc at_.at_ (n1 _)) hs1 (n2 _)
  refine I.turnR hk (r' := { r with alive := false }) ?_ ?_ (put_eq _ _ _) ⟨rfl, rfl, rfl, rfl⟩ ?_ (by omega) (fun b j t l _ hb => keep _ _ hb (by simp) (by simp)) (fun b l hb => keep _ _ hb (by simp) (by simp)) (I.small k a hk)
  · have := ra.mono (A2 := A) (fun b t l hb => keep _ _ hb (by simp) (by simp)) rfl
    exact { this with alive := rfl }
  · refine (at_.set I h4 h3 _).mono fun c l _ hc => ?_
    exact rput_other hc hs1 (by simp)
  · show IntKind.wrap .i64 (S.living - 1) = _
    rw [wrapI_in (by omega)]; omega
end
end Go.Proofs.Ytckfidopkajpaaa

/-
  The reference: Get, Set, Push, Pop.
-/
namespace Go.Sh
set_option linter.unusedVariables false
theorem Rw.get {A O : Type} {T : Nat → Option O} {mk : List A → O} {s : Sl} {l : List A} (h : Rw T mk s l) {i : Nat} {x : A} (hi : l[i]? = some x) : ∃ fb L, s.a = some ⟨fb, 0, none⟩ ∧ T fb = some (mk L) ∧ L[i]? = some x ∧ i < s.len ∧ L.length = s.cap ∧ L.take l.length = l := by
  have hlt : i < l.length := by
    rcases Nat.lt_or_ge i l.length with h' | h'
    · exact h'
    · rw [List.getElem?_eq_none h'] at hi; cases hi
  obtain ⟨fb, L, g1, g2, g3, g4⟩ := h.blk (by omega)
  refine ⟨fb, L, g1, g2, ?_, by rw [h.len]; exact hlt, g3, g4⟩
  rw [← g4, List.getElem?_take_of_lt hlt] at hi
  exact hi
end Go.Sh
namespace Go.Proofs.Ytckfidopkajpaaa
set_option linter.unusedVariables false
open Go.Sh Go.RowKit
set_option maxRecDepth 100000
theorem set_self {α : Type} {l : List α} {k : Nat} {x : α} (h : l[k]? = some x) : l.set k x = l := by
  apply List.ext_getElem?
  intro i
  by_cases e : i = k
  · subst e
    have hlt : i < l.length := by
      rcases Nat.lt_or_ge i l.length with h' | h'
      · exact h'
      · rw [List.getElem?_eq_none h'] at h; cases h
    rw [List.getElem?_set_self hlt, h]
  · rw [List.getElem?_set_ne (Ne.symm e)]
section
variable {w0 w : World} {T0 T : Rp} {sb : Nat} {S : Rk} {L L' : List Ra} {A : St} {k b : Nat} {r : Ra} {α β : Type} {Q : α → World → Prop}
/-- A row turned, behind a change in its own lists. -/
theorem RInv.rowPut (I : RInv T sb S L A) {a a' : Ac} (hk : A.acts[k]? = some a) (at_ : RAt T S k r b L') (h4 : L'.take L.length = L) (h3 : L'.length = S.all.cap) {T2 : Rp} (k2 : ∀ c o, T c = some o → (∀ t l, o ≠ .ints k t l) → T2 c = some o) {r' : Ra} (h' : RaOk T2 A k a' r') (ha : a'.alive = a.alive) (hr : a'.room ≤ 4096 ∧ a'.slots.length ≤ 4096) :
    RInv (put T2 b (.rows (L'.set k r'))) sb S (L.set k r') (A.turn k a') := by
  have hb2 : T2 b = some (.rows L') := k2 _ _ at_.at_ (by simp)
  have at2 : RAt T2 S k r b L' := ⟨at_.a, hb2, at_.get, at_.lt⟩
  refine I.turnR hk (h'.mono (fun c t l hc => rput_other hc hb2 (by simp)) rfl) ?_ (rput_other (k2 _ _ I.stk (by simp)) hb2 (by simp)) ⟨rfl, rfl, rfl, rfl⟩ ?_ ?_ (fun c j t l hj hc => rput_other (k2 _ _ hc (by simp [hj])) hb2 (by simp)) (fun c l hc => rput_other (k2 _ _ hc (by simp)) hb2 (by simp)) hr
  · refine ⟨by rw [List.length_set]; exact I.all.len, I.all.le, I.all.max, .inr ⟨b, _, at_.a, put_eq _ _ _, by rw [List.length_set]; exact h3, ?_⟩⟩
    rw [List.length_set, List.take_set, h4]
  · rw [turn_living hk ha]; exact I.living
  · rw [turn_living hk ha]; exact I.lmax
/-- Its own lists turned, the row stays. -/
theorem RInv.listPut (I : RInv T sb S L A) {a a' : Ac} (hk : A.acts[k]? = some a) (hr0 : L[k]? = some r) {T2 : Rp} (k2 : ∀ c o, T c = some o → (∀ t l, o ≠ .ints k t l) → T2 c = some o) (h' : RaOk T2 A k a' r) (ha : a'.alive = a.alive) (hr : a'.room ≤ 4096 ∧ a'.slots.length ≤ 4096) :
    RInv T2 sb S L (A.turn k a') := by
  have := I.turnR (T2 := T2) (S2 := S) (r' := r) hk h' (by rw [set_self hr0]; exact I.all.mono fun c l _ hc => k2 _ _ hc (by simp)) (k2 _ _ I.stk (by simp)) ⟨rfl, rfl, rfl, rfl⟩ (by rw [turn_living hk ha]; exact I.living) (by rw [turn_living hk ha]; exact I.lmax) (fun c j t l hj hc => k2 _ _ hc (by simp [hj])) (fun c l hc => k2 _ _ hc (by simp)) hr
  rwa [set_self hr0] at this
theorem act_of {A : St} (hact : ∀ k, A.active = some k → A.alive k = true) : (A.active = none ∧ A.act = none) ∨ ∃ k a, A.active = some k ∧ A.acts[k]? = some a ∧ a.alive = true ∧ A.act = some (k, a) := by
  cases h : A.active with
  | none => exact .inl ⟨rfl, by unfold St.act; rw [h]⟩
  | some k =>
    obtain ⟨a, h1, h2⟩ := alive_lt (hact k h)
    exact .inr ⟨k, a, rfl, h1, h2, by unfold St.act; rw [h]; simp only; rw [h1]⟩
/-- A number of a list, read. -/
theorem ok_rnum (C : Tr ren w0 T0 w T) {t : Bool} {s : Sl} {l : List Int} (h : Rw T (Rb.ints k t) s l) {i : Nat} {x : Int} (hi : l[i]? = some x) {n : Int} (hn : n = i) {f : Int → M α} (hq : Ok (f x) w Q) : Ok (bnd (ix 1 s n) fun p => bnd (ld (.int .i64) p) f) w Q := by
  obtain ⟨fb, M, g1, g2, g3, g4, _⟩ := h.get hi
  subst hn
  refine ok_ixN g1 (by omega) (by omega) ?_
  rw [Int.toNat_natCast]
  exact ok_tld0 C g2 (flat_rdv (g := iV) (n := 1) (fun _ => rfl) (k := 0) g3 (by decide) rfl) hq
theorem ok_rnumW (C : Tr ren w0 T0 w T) {t : Bool} {s : Sl} {l : List Int} (h : Rw T (Rb.ints k t) s l) {i : Nat} {x : Int} (hi : l[i]? = some x) {n : Int} (hn : n = i) (v : Int) {f : Unit → M α}
    (hq : ∀ fb M w', T fb = some (.ints k t M) → Tr ren w0 T0 w' (put T fb (.ints k t (M.set i v))) → Rw (put T fb (.ints k t (M.set i v))) (Rb.ints k t) s (l.set i v) → Ok (f ()) w' Q) : Ok (bnd (ix 1 s n) fun p => bnd (wrs p 0 [.int .i64 v]) f) w Q := by
  obtain ⟨fb, M, g1, g2, g3, g4, g5, g6⟩ := h.get hi
  subst hn
  refine ok_ixN g1 (by omega) (by omega) ?_
  rw [Int.toNat_natCast]
  have hlt : i < M.length := by rw [g5]; have := h.le; omega
  refine ok_twr0 C (.ints k t (M.set i v)) g2 ?_ rfl (flat_spl (g := iV) (n := 1) (fun _ => rfl) (k := 0) g3 (Nat.le_refl 1) rfl) fun w' C' => hq fb M w' g2 C' ?_
  · show 1 * i + 1 ≤ (M.flatMap iV).length
    rw [flat_length (g := iV) (n := 1) (fun _ => rfl)]; omega
  · refine ⟨by rw [List.length_set]; exact h.len, h.le, h.max, .inr ⟨fb, _, g1, put_eq _ _ _, by rw [List.length_set]; exact g5, ?_⟩⟩
    rw [List.length_set, List.take_set, g6]
theorem rget_spec (h : Th ren w T) (hact : ∀ k, A.active = some k → A.alive k = true) (I : RInv T sb S L A) (i : Int) : Sr (f43_palaverref23_Stack_Get (pt (some sb)) i) w T fun r _ T' => T' = T ∧ r = A.get i := by
  unfold f43_palaverref23_Stack_Get St.get
  have C := Tr.refl h
  have hac := I.active
  refine ok_drfP ?_
  refine ok_tld C I.stk (x := S.active) rfl ?_
  rcases act_of hact with ⟨h1, h2⟩ | ⟨k, a, h1, hk, hal, h2⟩
  · rw [h2]
    exact ok_true (by rw [hac, h1]; rfl) (ok_ret.2 ⟨T, C, rfl, rfl⟩)
  rw [h2]
  rw [h1] at hac
  have hac : S.active = (k : Int) := hac
  refine ok_false (by rw [hac]; simp) ?_
  refine ok_tdraw C fun w1 C => ?_
  obtain ⟨r, b, L', hr, at_, ra, _⟩ := I.at hk
  refine ok_drfP ?_
  refine ok_tld C I.stk (x := S.all) rfl ?_
  refine ok_drfP ?_
  refine ok_tld C I.stk (x := S.active) rfl ?_
  refine ok_rix at_ hac ?_
  refine ok_bnd.2 (ok_mono (Q := fun b w' => b = decide (i < 0 ∨ i ≥ a.slots.length) ∧ w' = w1) ?_ ?_)
  · by_cases hx : i < 0
    · exact ok_true (by simpa using hx) (ok_ret.2 ⟨by simp [hx], rfl⟩)
    · refine ok_false (by simpa using hx) ?_
      refine ok_rld C at_ (x := r.slots) (by decide) rfl (ok_ret.2 ⟨?_, rfl⟩)
      rw [ra.slots.len]; simp [hx]
  rintro b9 w2 ⟨hb, e2⟩
  subst e2
  simp only
  by_cases hx : i < 0 ∨ i ≥ a.slots.length
  · rw [if_pos hx]
    exact ok_true (by rw [hb]; simpa using hx) (ok_ret.2 ⟨T, C, rfl, rfl⟩)
  rw [if_neg hx]
  refine ok_false (by rw [hb]; simpa using hx) ?_
  refine ok_rld C at_ (x := r.slots) (by decide) rfl ?_
  have hlt : i.toNat < a.slots.length := by omega
  refine ok_rnum C ra.slots (List.getElem?_eq_getElem hlt) (by omega) (ok_ret.2 ⟨T, C, rfl, ?_⟩)
  rw [List.getD_eq_getElem?_getD, List.getElem?_eq_getElem hlt]; rfl
theorem rset_spec (h : Th ren w T) (hact : ∀ k, A.active = some k → A.alive k = true) (I : RInv T sb S L A) (i v : Int) : Sr (f44_palaverref23_Stack_Set (pt (some sb)) i v) w T fun r _ T' => r = (A.set i v).1 ∧ Rs T' sb (A.set i v).2 := by
  unfold f44_palaverref23_Stack_Set
  have C := Tr.refl h
  refine ok_rcall C (rget_spec C.th hact I i) ?_
  rintro _ w1 T1 C ⟨rfl, rfl⟩
  unfold St.get St.set
  have hac := I.active
  rcases act_of hact with ⟨h1, h2⟩ | ⟨k, a, h1, hk, hal, h2⟩
  · rw [h2]
    exact ok_bnd.2 (ok_false rfl (ok_ret.2 (ok_ret.2 ⟨_, C, rfl, S, L, I⟩)))
  rw [h2]
  rw [h1] at hac
  have hac : S.active = (k : Int) := hac
  simp only
  by_cases hx : i < 0 ∨ i ≥ a.slots.length
  · rw [if_pos hx, if_pos hx]
    exact ok_bnd.2 (ok_false rfl (ok_ret.2 (ok_ret.2 ⟨_, C, rfl, S, L, I⟩)))
  rw [if_neg hx, if_neg hx]
  refine ok_bnd.2 (ok_true rfl ?_)
  simp only [bnd_as, bnd_ret]
  refine ok_tord C fun o w2 C => ?_
  obtain ⟨r, b, L', hr, at_, ra, h4, h3⟩ := I.at hk
  refine ok_drfP ?_
  refine ok_tld C I.stk (x := S.all) rfl ?_
  refine ok_drfP ?_
  refine ok_tld C I.stk (x := S.active) rfl ?_
  refine ok_rix at_ hac ?_
  refine ok_rld C at_ (x := r.slots) (by decide) rfl ?_
  have hlt : i.toNat < a.slots.length := by omega
  refine ok_rnumW C ra.slots (List.getElem?_eq_getElem hlt) (n := i) (by omega) v fun fb M w3 hfb C hs => ?_
  refine ok_ret.2 (ok_ret.2 ⟨_, C, rfl, S, L, ?_⟩)
  refine I.listPut (a' := { a with slots := a.slots.set i.toNat v }) hk hr (fun c o hc hne => rput_other hc hfb (hne _ _)) ?_ rfl ⟨(I.small k a hk).1, by rw [List.length_set]; exact (I.small k a hk).2⟩
  exact { ra with slots := hs, stack := ra.stack.mono fun c l _ hc => rput_other hc hfb (by simp) }
end
end Go.Proofs.Ytckfidopkajpaaa
