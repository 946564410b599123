/-
  Parts of the proof: FB, FC, FD. It states what the functions do; no further condition.
-/
import Derived.Test.YtckfidopkajpaaaFA
import Derived.Test.YtckfidopkajpaaaF01
set_option linter.unusedVariables false
set_option linter.unusedSimpArgs false
/-
  The stack of frames, as typed things in a heap.
-/
namespace Go.Proofs.Ytckfidopkajpaaa
set_option linter.unusedVariables false
open Go.Sh Go.RowKit
set_option maxRecDepth 100000
/-- A pointer to a thing. -/
def pt (p : Option Nat) : Option Addr := p.map fun b => ⟨b, 0, none⟩
theorem pt_none (p : Option Nat) : (pt p).isNone = p.isNone := by cases p <;> rfl
structure Fr where
  method : Int
  base : Int
  slots : Int
  depth : Int
  room : Int
  ctx : Option Nat
structure Sk where
  pages : Sl
  cells : Int
  most : Int
  top : Option Nat
  alone : Option Nat
  named : Sl
  living : Int
  clock : Int
structure Pg where
  cells : Sl
  frames : Sl
  below : Option Nat
  used : Int
structure Ct where
  number : Int
  dead : Bool
  page : Option Nat
  at_ : Int
  method : Int
  slots : Sl
  stack : Sl
  room : Int
  sender : Option Nat
inductive Ow where
  | cells (p : Nat)
  | slots (c : Nat)
  | stack (c : Nat)
inductive Ob where
  | stk (s : Sk)
  | page (p : Pg)
  | ctx (c : Ct)
  | ints (o : Ow) (l : List Int)
  | pages (l : List (Option Nat))
  | named (l : List (Option Nat))
  | frs (p : Nat) (l : List Fr)
  | cellv (v : Value)
def slV (s : Sl) : Value := .slice s.a s.len s.cap
def Fr.en (f : Fr) : List Value := [.int .i64 f.method, .int .i64 f.base, .int .i64 f.slots, .int .i64 f.depth, .int .i64 f.room, .pointer (pt f.ctx)]
def Sk.en (s : Sk) : List Value := [slV s.pages, .int .i64 s.cells, .int .i64 s.most, .pointer (pt s.top), .pointer (pt s.alone), slV s.named, .int .i64 s.living, .int .i64 s.clock]
def Pg.en (p : Pg) : List Value := [slV p.cells, slV p.frames, .pointer (pt p.below), .int .i64 p.used]
def Ct.en (c : Ct) : List Value := [.int .i64 c.number, .bool c.dead, .pointer (pt c.page), .int .i64 c.at_, .int .i64 c.method, slV c.slots, slV c.stack, .int .i64 c.room, .pointer (pt c.sender)]
def en : Ob → List Value
  | .stk s => s.en
  | .page p => p.en
  | .ctx c => c.en
  | .ints _ l => nums .i64 l
  | .pages l => l.map fun b => .pointer (pt b)
  | .named l => l.map fun b => .pointer (pt b)
  | .frs _ l => l.flatMap Fr.en
  | .cellv v => [v]
theorem fr_len (f : Fr) : f.en.length = 6 := rfl
theorem rd_fr {p i k : Nat} {l : List Fr} {f : Fr} {t : Ty} {x : t.den} (h : l[i]? = some f) (hk : k + t.size ≤ 6) (hx : rdv t f.en.toArray k = some x) : rdv t (en (.frs p l)).toArray (6 * i + k) = some x := flat_rdv fr_len h hk hx
theorem wr_fr {p i k : Nat} {l : List Fr} {f f' : Fr} {vs : List Value} (h : l[i]? = some f) (hk : k + vs.length ≤ 6) (hs : spl f.en k vs = f'.en) : spl (en (.frs p l)) (6 * i + k) vs = en (.frs p (l.set i f')) := flat_spl fr_len h hk hs
example (s : Sk) : rdv (.int .i64) (en (.stk s)).toArray 6 = some s.living := rfl
example (s : Sk) : rdv .ptr (en (.stk s)).toArray 3 = some (pt s.top) := rfl
example (c : Ct) : spl (en (.ctx c)) 1 [.bool true] = en (.ctx { c with dead := true }) := rfl
example (p : Pg) (s : Sl) : spl (en (.page p)) 1 [.slice s.a s.len s.cap] = en (.page { p with frames := s }) := rfl
end Go.Proofs.Ytckfidopkajpaaa

/-
  The frames' small functions: where the last frame is, where it ends, its slots and its stack.
-/
namespace Go.Sh
set_option linter.unusedVariables false
open Go.RowKit
theorem ok_slc3 {α : Type} {sz : Nat} {s : Sl} {lo hi mx : Nat} {w : World} {f : Sl → M α} {Q : α → World → Prop} (h1 : lo ≤ hi) (h2 : hi ≤ mx) (h3 : mx ≤ s.cap)
    (hq : Ok (f ⟨if mx = lo then s.a else s.a.map (·.add (lo * sz)), hi - lo, mx - lo⟩) w Q) : Ok (bnd (slc sz s (some (lo : Int)) (some (hi : Int)) (some (mx : Int))) f) w Q := by
  refine ok_bnd.2 ?_
  unfold slc
  refine ok_bnd.2 (ok_bound (v := (mx : Int)) (by omega) (by omega) ?_)
  refine ok_bnd.2 (ok_bound (v := (hi : Int)) (by omega) (by omega) ?_)
  refine ok_bnd.2 (ok_bound (v := (lo : Int)) (by omega) (by omega) ?_)
  exact ok_ret.2 hq
theorem ok_slcP {α : Type} {sz : Nat} {s : Sl} {hi : Nat} {w : World} {f : Sl → M α} {Q : α → World → Prop} (h2 : hi ≤ s.cap)
    (hq : Ok (f ⟨s.a, hi, s.cap⟩) w Q) : Ok (bnd (slc sz s none (some (hi : Int)) none) f) w Q := by
  refine ok_bnd.2 ?_
  unfold slc
  refine ok_bnd.2 (ok_ret.2 ?_)
  refine ok_bnd.2 (ok_bound (v := (hi : Int)) (by omega) (by omega) ?_)
  refine ok_bnd.2 (ok_ret.2 ?_)
  refine ok_ret.2 ?_
  have e : (⟨if s.cap = 0 then s.a else s.a.map (·.add (0 * sz)), (hi : Int).toNat - 0, s.cap - 0⟩ : Sl) = ⟨s.a, hi, s.cap⟩ := by
    have : s.a.map (·.add (0 * sz)) = s.a := by
      cases s.a with
      | none => rfl
      | some a => simp [Addr.add]
    rw [this]; simp
  rw [e]; exact hq
end Go.Sh
namespace Go.Proofs.Ytckfidopkajpaaa
set_option linter.unusedVariables false
open Go.Sh Go.RowKit
set_option maxRecDepth 100000
theorem wrapI_in {n : Int} (h : -9223372036854775808 ≤ n ∧ n ≤ 9223372036854775807) : IntKind.wrap .i64 n = n := by rw [wrapI]; omega
abbrev Hp := Nat → Option Ob
def Sp {α : Type} (m : M α) (w : World) (T : Hp) (P : α → World → Hp → Prop) : Prop := Ok m w fun r w' => ∃ T', Tr en w T w' T' ∧ P r w' T'
variable {w0 w : World} {T0 T : Hp}
theorem ok_tcall {α β : Type} (C : Tr en w0 T0 w T) {m : M β} {P : β → World → Hp → Prop} (hm : Sp m w T P) {f : β → M α} {Q : α → World → Prop} (hq : ∀ r w' T', Tr en w0 T0 w' T' → P r w' T' → Ok (f r) w' Q) : Ok (bnd m f) w Q :=
  ok_bnd.2 (ok_mono hm fun r w' ⟨T', h1, h2⟩ => hq r w' T' (C.trans h1) h2)
/-- A call that reads alone. -/
theorem ok_trd {α β : Type} (C : Tr en w0 T0 w T) {m : M β} {x : β} (hm : Sp m w T fun r _ T' => T' = T ∧ r = x) {f : β → M α} {Q : α → World → Prop} (hq : ∀ w', Tr en w0 T0 w' T → Ok (f x) w' Q) : Ok (bnd m f) w Q :=
  ok_tcall C hm (by rintro r w' T' C' ⟨rfl, rfl⟩; exact hq w' C')
/-- A page's frames. -/
structure Fs (T : Hp) (p : Nat) (s : Sl) (fl : List Fr) : Prop where
  len : s.len = fl.length
  le : s.len ≤ s.cap
  max : s.cap ≤ maxLen
  at_ : (s.a = none ∧ s.cap = 0) ∨ ∃ fb L, s.a = some ⟨fb, 0, none⟩ ∧ T fb = some (.frs p L) ∧ L.length = s.cap ∧ L.take fl.length = fl
theorem Fs.blk {p : Nat} {s : Sl} {fl : List Fr} (h : Fs T p s fl) (hn : 0 < fl.length) : ∃ fb L, s.a = some ⟨fb, 0, none⟩ ∧ T fb = some (.frs p L) ∧ L.length = s.cap ∧ L.take fl.length = fl := by
  rcases h.at_ with h1 | h1
  · have := h.len; have := h.le; omega
  · exact h1
theorem take_at {A : Type} {L fl : List A} (h : L.take fl.length = fl) {i : Nat} {F : A} (hi : fl[i]? = some F) : L[i]? = some F := by
  have hl : i < fl.length := by
    rcases Nat.lt_or_ge i fl.length with h' | h'
    · exact h'
    · rw [List.getElem?_eq_none h'] at hi; cases hi
  rw [← h, List.getElem?_take_of_lt hl] at hi
  exact hi
theorem last_spec {p fb : Nat} {P : Pg} {fl : List Fr} (h : Th en w T) (hp : T p = some (.page P)) (hf : Fs T p P.frames fl) (hn : 0 < fl.length) (ha : P.frames.a = some ⟨fb, 0, none⟩) :
    Sp (f66_frames_page_last (pt (some p))) w T fun r _ T' => T' = T ∧ r = some ⟨fb, 6 * (fl.length - 1), none⟩ := by
  unfold f66_frames_page_last
  have C := Tr.refl h
  have hml : maxLen = 9223372036854775807 := by decide
  have h1 := hf.len; have h2 := hf.le; have h3 := hf.max
  refine ok_tdraw C fun w C => ?_
  refine ok_drfS ?_
  refine ok_tld C hp (x := P.frames) rfl ?_
  refine ok_drfS ?_
  refine ok_tld C hp (x := P.frames) rfl ?_
  have e : IntKind.wrap .i64 ((P.frames.len : Int) - 1) = ((fl.length - 1 : Nat) : Int) := by rw [wrapI_in (by omega)]; omega
  rw [e]
  refine ok_ixN ha (by omega) (by omega) ?_
  rw [Int.toNat_natCast]
  exact ok_ret.2 ⟨T, C, rfl, rfl⟩
/-- A frame's numbers are small. -/
def Fr.Small (F : Fr) : Prop := (0 ≤ F.base ∧ F.base ≤ 10000) ∧ (0 ≤ F.slots ∧ F.slots ≤ 10000) ∧ (0 ≤ F.depth ∧ F.depth ≤ F.room) ∧ F.room ≤ 10000
def Fr.fin (F : Fr) : Int := F.base + 4 + F.slots + F.room
theorem end_spec {p fb i : Nat} {L : List Fr} {F : Fr} (h : Th en w T) (hb : T fb = some (.frs p L)) (hi : L[i]? = some F) (hs : F.Small) :
    Sp (f67_frames_frame_end (some ⟨fb, 6 * i, none⟩)) w T fun r _ T' => T' = T ∧ r = F.fin := by
  unfold f67_frames_frame_end
  obtain ⟨h1, h2, h3, h4⟩ := hs
  have C := Tr.refl h
  refine ok_tdraw C fun w C => ?_
  refine ok_drfS ?_
  refine ok_tld C hb (x := F.base) (rd_fr hi (by decide) rfl) ?_
  refine ok_drfS ?_
  refine ok_tld C hb (x := F.slots) (rd_fr hi (by decide) rfl) ?_
  refine ok_drfS ?_
  refine ok_tld C hb (x := F.room) (rd_fr hi (by decide) rfl) ?_
  refine ok_ret.2 ⟨T, C, rfl, ?_⟩
  rw [wrapI_in (n := F.base + 4) (by omega), wrapI_in (n := F.base + 4 + F.slots) (by omega), wrapI_in (by omega)]
  rfl
theorem top_spec {p : Nat} {P : Pg} {fl : List Fr} (h : Th en w T) (hp : T p = some (.page P)) (hf : Fs T p P.frames fl) (hs : ∀ F ∈ fl, F.Small) :
    Sp (f29_frames_page_top (pt (some p))) w T fun r _ T' => T' = T ∧ r = match fl.getLast? with | some F => F.fin | none => 0 := by
  unfold f29_frames_page_top
  have C := Tr.refl h
  have h1 := hf.len
  refine ok_drfS ?_
  refine ok_tld C hp (x := P.frames) rfl ?_
  by_cases h0 : fl = []
  · subst h0
    exact ok_true (by rw [h1]; rfl) (ok_ret.2 ⟨T, C, rfl, rfl⟩)
  · have hn := List.length_pos_iff.2 h0
    refine ok_false (by rw [h1]; simpa using h0) ?_
    obtain ⟨fb, L, ha, hb, hL, ht⟩ := hf.blk hn
    refine ok_trd C (last_spec C.th hp hf hn ha) fun w C => ?_
    have hl : fl[fl.length - 1]? = some (fl.getLast h0) := by rw [List.getLast_eq_getElem, List.getElem?_eq_getElem]
    refine ok_trd C (end_spec C.th hb (take_at ht hl) (hs _ (List.getLast_mem h0))) fun w C => ?_
    refine ok_ret.2 ⟨T, C, rfl, ?_⟩
    rw [List.getLast?_eq_some_getLast h0]
/-- A row of a page's cells. -/
def sub (cb lo n cap : Nat) (b : Bool) : Sl := ⟨some ⟨cb, if b then lo else 0, none⟩, n, cap⟩
theorem slots_spec {p fb i cb : Nat} {P : Pg} {L : List Fr} {F : Fr} (h : Th en w T) (hp : T p = some (.page P)) (hb : T fb = some (.frs p L)) (hi : L[i]? = some F) (hs : F.Small) (hc : P.cells.a = some ⟨cb, 0, none⟩) (hcap : F.fin ≤ P.cells.cap) :
    Sp (f70_frames_page_slots (pt (some p)) (some ⟨fb, 6 * i, none⟩)) w T fun r _ T' => T' = T ∧ r = ⟨some ⟨cb, if F.slots = 0 then 0 else (F.base + 4).toNat, none⟩, F.slots.toNat, F.slots.toNat⟩ := by
  unfold f70_frames_page_slots
  obtain ⟨h1, h2, h3, h4⟩ := hs
  unfold Fr.fin at hcap
  have C := Tr.refl h
  refine ok_drfS ?_
  refine ok_tld C hb (x := F.base) (rd_fr hi (by decide) rfl) ?_
  refine ok_tdraw C fun w C => ?_
  refine ok_drfS ?_
  refine ok_tld C hp (x := P.cells) rfl ?_
  refine ok_drfS ?_
  refine ok_tld C hb (x := F.slots) (rd_fr hi (by decide) rfl) ?_
  refine ok_drfS ?_
  refine ok_tld C hb (x := F.slots) (rd_fr hi (by decide) rfl) ?_
  obtain ⟨b, hbb⟩ : ∃ b : Nat, F.base = b := ⟨F.base.toNat, by omega⟩
  obtain ⟨n, hnn⟩ : ∃ n : Nat, F.slots = n := ⟨F.slots.toNat, by omega⟩
  rw [hbb, hnn]
  have e1 : IntKind.wrap .i64 ((b : Int) + 4) = ((b + 4 : Nat) : Int) := by rw [wrapI_in (by omega)]; omega
  have e2 : IntKind.wrap .i64 (((b + 4 : Nat) : Int) + n) = ((b + 4 + n : Nat) : Int) := by rw [wrapI_in (by omega)]; omega
  rw [e1, e2]
  refine ok_slc3 (by omega) (by omega) (by omega) ?_
  refine ok_ret.2 ⟨T, C, rfl, ?_⟩
  rw [hc, Nat.mul_one]
  simp only [Option.map_some, addr_add, Nat.zero_add]
  by_cases h0 : n = 0
  · subst h0; simp
  · rw [if_neg (by omega), if_neg (by omega), show b + 4 + n - (b + 4) = n by omega, show ((b : Int) + 4).toNat = b + 4 by omega]
    simp
theorem stack_spec {p fb i cb : Nat} {P : Pg} {L : List Fr} {F : Fr} (h : Th en w T) (hp : T p = some (.page P)) (hb : T fb = some (.frs p L)) (hi : L[i]? = some F) (hs : F.Small) (hc : P.cells.a = some ⟨cb, 0, none⟩) (hcap : F.fin ≤ P.cells.cap) :
    Sp (f34_frames_page_stack (pt (some p)) (some ⟨fb, 6 * i, none⟩)) w T fun r _ T' => T' = T ∧ r = ⟨some ⟨cb, if F.room = 0 then 0 else (F.base + 4 + F.slots).toNat, none⟩, F.depth.toNat, F.room.toNat⟩ := by
  unfold f34_frames_page_stack
  obtain ⟨h1, h2, h3, h4⟩ := hs
  unfold Fr.fin at hcap
  have C := Tr.refl h
  refine ok_tdraw C fun w C => ?_
  refine ok_drfS ?_
  refine ok_tld C hb (x := F.base) (rd_fr hi (by decide) rfl) ?_
  refine ok_drfS ?_
  refine ok_tld C hb (x := F.slots) (rd_fr hi (by decide) rfl) ?_
  refine ok_tdraw C fun w C => ?_
  refine ok_drfS ?_
  refine ok_tld C hp (x := P.cells) rfl ?_
  refine ok_drfS ?_
  refine ok_tld C hb (x := F.depth) (rd_fr hi (by decide) rfl) ?_
  refine ok_drfS ?_
  refine ok_tld C hb (x := F.room) (rd_fr hi (by decide) rfl) ?_
  obtain ⟨b, hbb⟩ : ∃ b : Nat, F.base = b := ⟨F.base.toNat, by omega⟩
  obtain ⟨n, hnn⟩ : ∃ n : Nat, F.slots = n := ⟨F.slots.toNat, by omega⟩
  obtain ⟨d, hdd⟩ : ∃ n : Nat, F.depth = n := ⟨F.depth.toNat, by omega⟩
  obtain ⟨r, hrr⟩ : ∃ n : Nat, F.room = n := ⟨F.room.toNat, by omega⟩
  rw [hbb, hnn, hdd, hrr]
  have e1 : IntKind.wrap .i64 ((b : Int) + 4) = ((b + 4 : Nat) : Int) := by rw [wrapI_in (by omega)]; omega
  have e2 : IntKind.wrap .i64 (((b + 4 : Nat) : Int) + n) = ((b + 4 + n : Nat) : Int) := by rw [wrapI_in (by omega)]; omega
  have e3 : IntKind.wrap .i64 (((b + 4 + n : Nat) : Int) + d) = ((b + 4 + n + d : Nat) : Int) := by rw [wrapI_in (by omega)]; omega
  have e4 : IntKind.wrap .i64 (((b + 4 + n : Nat) : Int) + r) = ((b + 4 + n + r : Nat) : Int) := by rw [wrapI_in (by omega)]; omega
  rw [e1, e2, e3, e4]
  refine ok_slc3 (by omega) (by omega) (by omega) ?_
  refine ok_ret.2 ⟨T, C, rfl, ?_⟩
  rw [hc, Nat.mul_one]
  simp only [Option.map_some, addr_add, Nat.zero_add]
  by_cases h0 : r = 0
  · subst h0
    have : d = 0 := by omega
    subst this
    simp
  · rw [if_neg (by omega), if_neg (by omega), show b + 4 + n + d - (b + 4 + n) = d by omega, show b + 4 + n + r - (b + 4 + n) = r by omega, show ((b : Int) + 4 + n).toNat = b + 4 + n by omega]
    simp
end Go.Proofs.Ytckfidopkajpaaa

/-
  The document's state of activations, in plain Lean; and what it is that a heap holds it.
-/
namespace Go.Proofs.Ytckfidopkajpaaa
set_option linter.unusedVariables false
open Go.Sh Go.RowKit
set_option maxRecDepth 100000
/-- An activation. -/
structure Ac where
  method : Int
  slots : List Int
  stack : List Int
  room : Nat
  sender : Option Nat
  alive : Bool
/-- All of them. -/
structure St where
  cells : Nat
  most : Nat
  acts : List Ac
  active : Option Nat
  named : List Nat
  extra : Nat := 0
def St.alive (A : St) (k : Nat) : Bool := match A.acts[k]? with
  | some a => a.alive
  | none => false
def St.living (A : St) : Nat := A.acts.countP (·.alive) + A.extra
/-- The sender that one comes back to. -/
def St.eff (A : St) (k : Nat) : Option Nat := match A.acts[k]? with
  | some a => match a.sender with
    | some j => if A.alive j then some j else none
    | none => none
  | none => none
def St.num (A : St) (k : Nat) : Int := if k ∈ A.named then (A.named.idxOf k : Int) + 1 else 0
theorem alive_lt {A : St} {k : Nat} (h : A.alive k = true) : ∃ a, A.acts[k]? = some a ∧ a.alive = true := by
  unfold St.alive at h
  split at h
  · rename_i a ha; exact ⟨a, ha, h⟩
  · cases h
/-- A slice of numbers that is somebody's. -/
structure In (T : Hp) (o : Ow) (s : Sl) (l : List Int) : Prop where
  len : s.len = l.length
  le : s.len ≤ s.cap
  max : s.cap ≤ maxLen
  at_ : l = [] ∨ ∃ b L, s.a = some ⟨b, 0, none⟩ ∧ T b = some (.ints o L) ∧ L.take l.length = l
/-- A context as a sender. -/
def Sn (A : St) (cx : Nat → Option Nat) (c : Option Nat) (e : Option Nat) : Prop := match c with
  | none => e = none
  | some c => ∃ k, cx k = some c ∧ e = if A.alive k then some k else none
structure FrOk (A : St) (cx : Nat → Option Nat) (cl : List Int) (F : Fr) (id : Nat) (a : Ac) : Prop where
  act : A.acts[id]? = some a
  alive : a.alive = true
  base : 0 ≤ F.base
  method : F.method = a.method
  slots : F.slots = a.slots.length
  depth : F.depth = a.stack.length
  room : F.room = a.room
  fits : a.stack.length ≤ a.room
  ctx : F.ctx = cx id
  fin : F.fin ≤ A.cells
  hasS : (cl.drop (F.base.toNat + 4)).take a.slots.length = a.slots
  hasT : (cl.drop (F.base.toNat + 4 + a.slots.length)).take a.stack.length = a.stack
structure PgOk (T : Hp) (A : St) (cx : Nat → Option Nat) (p : Nat) (ids : List Nat) (P : Pg) (fl : List Fr) (cb : Nat) (cl : List Int) : Prop where
  page : T p = some (.page P)
  cells : P.cells = ⟨some ⟨cb, 0, none⟩, A.cells, A.cells⟩
  has : T cb = some (.ints (.cells p) cl)
  cll : cl.length = A.cells
  frames : Fs T p P.frames fl
  cnt : fl.length = ids.length
  fr : ∀ (i : Nat) F id, fl[i]? = some F → ids[i]? = some id → ∃ a, FrOk A cx cl F id a
  first : ∀ F, fl[0]? = some F → F.base = 0
  next : ∀ (i : Nat) F G, fl[i]? = some F → fl[i + 1]? = some G → G.base = F.fin
  below : ∀ id, ids[0]? = some id → Sn A cx P.below (A.eff id)
  link : ∀ (i : Nat) id jd, ids[i]? = some id → ids[i + 1]? = some jd → A.eff jd = some id
structure CtOk (T : Hp) (A : St) (cx : Nat → Option Nat) (loc : Nat → Option (Nat × Nat)) (id c : Nat) (C : Ct) (a : Ac) : Prop where
  ctx : T c = some (.ctx C)
  act : A.acts[id]? = some a
  dead : C.dead = !a.alive
  number : C.number = A.num id
  framed : ∀ p i, loc id = some (p, i) → C.page = some p ∧ C.at_ = (i : Int)
  lone : a.alive = true → loc id = none → C.page = none ∧ C.method = a.method ∧ C.room = (a.room : Int) ∧ a.stack.length ≤ a.room ∧ a.slots.length + a.room + 4 ≤ A.cells ∧ In T (.slots c) C.slots a.slots ∧ In T (.stack c) C.stack a.stack ∧ Sn A cx C.sender (A.eff id)
structure Gh where
  pl : List Nat
  fid : Nat → List Nat
  loc : Nat → Option (Nat × Nat)
  cx : Nat → Option Nat
/-- All but who is active. -/
structure Inv (T : Hp) (sb : Nat) (S : Sk) (A : St) (G : Gh) : Prop where
  stk : T sb = some (.stk S)
  cells : S.cells = A.cells
  cmin : 16 ≤ A.cells
  cmax : A.cells ≤ 4096
  most : S.most = A.most
  mmax : A.most ≤ 65536
  living : S.living = A.living
  lmax : A.living ≤ A.most
  pgs : S.pages.len = G.pl.length ∧ S.pages.len ≤ S.pages.cap ∧ G.pl.length ≤ 64 ∧ ∃ b L, S.pages.a = some ⟨b, 0, none⟩ ∧ T b = some (.pages L) ∧ L.take G.pl.length = G.pl.map some
  some_ : G.pl ≠ []
  nodup : G.pl.Nodup
  page : ∀ p ∈ G.pl, ∃ P fl cb cl, PgOk T A G.cx p (G.fid p) P fl cb cl
  l1 : ∀ p (i : Nat) id, p ∈ G.pl → (G.fid p)[i]? = some id → G.loc id = some (p, i)
  l2 : ∀ id p i, G.loc id = some (p, i) → p ∈ G.pl ∧ (G.fid p)[i]? = some id
  ctx : ∀ id c, G.cx id = some c → ∃ C a, CtOk T A G.cx G.loc id c C a
  inj : ∀ i j c, G.cx i = some c → G.cx j = some c → i = j
  here : ∀ id, A.alive id = true → G.loc id ≠ none ∨ G.cx id ≠ none
  nmd : S.named.len = A.named.length ∧ S.named.len ≤ S.named.cap ∧ S.named.cap ≤ maxLen ∧ ((S.named.a = none ∧ S.named.cap = 0) ∨ ∃ b L, S.named.a = some ⟨b, 0, none⟩ ∧ T b = some (.named L) ∧ L.length = S.named.cap ∧ L.take A.named.length = A.named.map G.cx)
  nctx : ∀ id ∈ A.named, G.cx id ≠ none
  nnd : A.named.Nodup
/-- Who is active. -/
def Acv (S : Sk) (A : St) (G : Gh) (e : Option Nat) : Prop := match e with
  | none => S.top = none ∧ S.alone = none
  | some id => A.alive id = true ∧ ((∃ p, S.top = some p ∧ p ∈ G.pl ∧ S.alone = none ∧ (G.fid p).getLast? = some id) ∨ (S.top = none ∧ ∃ c, S.alone = some c ∧ G.cx id = some c ∧ G.loc id = none))
/-! ### What stays when the heap turns -/
theorem put_other {T : Hp} {b x : Nat} {o o' p : Ob} (hx : T x = some o) (hb : T b = some o') (hne : o ≠ o') : put T b p x = some o := by
  rw [put_ne]
  · exact hx
  · rintro rfl
    rw [hx, Option.some.injEq] at hb
    exact hne hb
theorem put_new {T : Hp} {b x : Nat} {o p : Ob} (hx : T x = some o) (hb : T b = none) : put T b p x = some o := by
  rw [put_ne]
  · exact hx
  · rintro rfl
    rw [hx] at hb; cases hb
theorem In.mono {T T' : Hp} {o : Ow} {s : Sl} {l : List Int} (h : In T o s l) (hT : ∀ b L, T b = some (.ints o L) → T' b = some (.ints o L)) : In T' o s l :=
  ⟨h.len, h.le, h.max, h.at_.imp id fun ⟨b, L, h1, h2, h3⟩ => ⟨b, L, h1, hT b L h2, h3⟩⟩
theorem Fs.mono {T T' : Hp} {p : Nat} {s : Sl} {fl : List Fr} (h : Fs T p s fl) (hT : ∀ b L, T b = some (.frs p L) → T' b = some (.frs p L)) : Fs T' p s fl :=
  ⟨h.len, h.le, h.max, h.at_.imp id fun ⟨b, L, h1, h2, h3⟩ => ⟨b, L, h1, hT b L h2, h3⟩⟩
theorem PgOk.mono {T T' : Hp} {A : St} {cx : Nat → Option Nat} {p : Nat} {ids : List Nat} {P : Pg} {fl : List Fr} {cb : Nat} {cl : List Int} (h : PgOk T A cx p ids P fl cb cl)
    (h1 : ∀ P, T p = some (.page P) → T' p = some (.page P)) (h2 : ∀ b L, T b = some (.ints (.cells p) L) → T' b = some (.ints (.cells p) L)) (h3 : ∀ b L, T b = some (.frs p L) → T' b = some (.frs p L)) : PgOk T' A cx p ids P fl cb cl :=
  { h with page := h1 _ h.page, has := h2 _ _ h.has, frames := h.frames.mono h3 }
theorem FrOk.small {A : St} {cx : Nat → Option Nat} {cl : List Int} {F : Fr} {id : Nat} {a : Ac} (h : FrOk A cx cl F id a) (hc : A.cells ≤ 4096) : F.Small := by
  have h1 := h.base; have h2 := h.slots; have h3 := h.depth; have h4 := h.room; have h5 := h.fits; have h6 := h.fin
  unfold Fr.fin at h6
  exact ⟨⟨h1, by omega⟩, ⟨by omega, by omega⟩, ⟨by omega, by omega⟩, by omega⟩
theorem Sn.mono {A : St} {cx cx' : Nat → Option Nat} {c e : Option Nat} (h : Sn A cx c e) (hc : ∀ k b, cx k = some b → cx' k = some b) : Sn A cx' c e := by
  cases c with
  | none => exact h
  | some c => obtain ⟨k, h1, h2⟩ := h; exact ⟨k, hc _ _ h1, h2⟩
end Go.Proofs.Ytckfidopkajpaaa
