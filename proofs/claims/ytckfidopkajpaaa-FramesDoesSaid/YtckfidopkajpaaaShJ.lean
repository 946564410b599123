/-
  Reasoning about computations of ShA: what comes out and the world behind it; blocks and what they hold.
-/
import Derived.Test.YtckfidopkajpaaaShI
import Derived.Below
set_option linter.unusedVariables false
set_option linter.unusedSimpArgs false
namespace Go.Sh
set_option linter.unusedVariables false
open Go.RowKit

/-- It ends well, so. -/
def Ok {α : Type} (m : M α) (w : World) (Q : α → World → Prop) : Prop := ∃ x w', m w = some (x, w') ∧ Q x w'
theorem ok_mono {α : Type} {m : M α} {w : World} {Q Q' : α → World → Prop} (h : Ok m w Q) (hq : ∀ x w', Q x w' → Q' x w') : Ok m w Q' :=
  let ⟨x, w', h1, h2⟩ := h; ⟨x, w', h1, hq x w' h2⟩
theorem ok_ret {α : Type} {x : α} {w : World} {Q : α → World → Prop} : Ok (ret x) w Q ↔ Q x w :=
  ⟨fun ⟨y, w', h1, h2⟩ => by obtain ⟨rfl, rfl⟩ := ret_some.1 h1; exact h2, fun h => ⟨x, w, rfl, h⟩⟩
theorem ok_bnd {α β : Type} {m : M α} {f : α → M β} {w : World} {Q : β → World → Prop} : Ok (bnd m f) w Q ↔ Ok m w fun x w1 => Ok (f x) w1 Q := by
  constructor
  · rintro ⟨y, w', h1, h2⟩
    obtain ⟨x, w1, h3, h4⟩ := bnd_some.1 h1
    exact ⟨x, w1, h3, y, w', h4, h2⟩
  · rintro ⟨x, w1, h1, y, w', h2, h3⟩
    exact ⟨y, w', bnd_some.2 ⟨x, w1, h1, h2⟩, h3⟩
theorem ok_fail {α : Type} {w : World} {Q : α → World → Prop} : Ok (fail : M α) w Q ↔ False := ⟨fun ⟨_, _, h, _⟩ => (by cases h), False.elim⟩
theorem ok_cnd {α : Type} {b : Bool} {m n : M α} {w : World} {Q : α → World → Prop} : Ok (cnd b m n) w Q ↔ (b = true → Ok m w Q) ∧ (b = false → Ok n w Q) := by
  cases b <;> simp [cnd]
theorem ok_true {α : Type} {b : Bool} {m n : M α} {w : World} {Q : α → World → Prop} (hb : b = true) (h : Ok m w Q) : Ok (cnd b m n) w Q := by subst hb; exact h
theorem ok_false {α : Type} {b : Bool} {m n : M α} {w : World} {Q : α → World → Prop} (hb : b = false) (h : Ok n w Q) : Ok (cnd b m n) w Q := by subst hb; exact h
theorem ok_drawM {w : World} {Q : Unit → World → Prop} : Ok drawM w Q ↔ Q () w.drew :=
  ⟨fun ⟨_, _, h1, h2⟩ => by rw [drawM_some.1 h1] at h2; exact h2, fun h => ⟨(), _, rfl, h⟩⟩
theorem ok_cnt {b : Int} {w : World} {Q : Nat → World → Prop} : Ok (cnt b) w Q ↔ 0 ≤ b ∧ Q b.toNat w := by
  unfold cnt
  split
  · rw [ok_fail]; constructor
    · exact False.elim
    · rintro ⟨h, _⟩; omega
  · rw [ok_ret]; exact ⟨fun h => ⟨by omega, h⟩, fun h => h.2⟩
theorem ok_nz {b : Int} {w : World} {Q : Unit → World → Prop} : Ok (nz b) w Q ↔ b ≠ 0 ∧ Q () w := by
  unfold nz
  split
  · rename_i h; rw [ok_fail]; exact ⟨False.elim, fun h' => h'.1 h⟩
  · rename_i h; rw [ok_ret]; exact ⟨fun h' => ⟨h, h'⟩, fun h' => h'.2⟩
theorem ok_optM {α : Type} {o : Option α} {w : World} {Q : α → World → Prop} : Ok (optM o) w Q ↔ ∃ x, o = some x ∧ Q x w := by
  cases o with
  | none => simp [optM, ok_fail]
  | some x => simp [optM, ok_ret]
theorem ok_drf {p : Option Addr} {w : World} {Q : Addr → World → Prop} : Ok (drf p) w Q ↔ ∃ a, p = some a ∧ Q a w := ok_optM
theorem ok_of {α : Type} {m : M α} {w : World} {Q : α → World → Prop} {x : α} {w' : World} (h : m w = some (x, w')) (hq : Q x w') : Ok m w Q := ⟨x, w', h, hq⟩

/-! ### Blocks -/
/-- A block's cells. -/
def blk (w : World) (b : Nat) : Option (Array Value) := match w.heap[b]? with
  | some (.cells c _ _) => some c
  | _ => none
/-- A block may be written. -/
def fre (w : World) (b : Nat) : Bool := match w.heap[b]? with
  | some (.cells c _ fz) => decide (c.size ≤ fz.1 ∨ fz.2 ≤ fz.1)
  | _ => false
theorem blk_lt {w : World} {b : Nat} {c : Array Value} (h : blk w b = some c) : b < w.heap.size := by
  unfold blk at h
  rcases Nat.lt_or_ge b w.heap.size with h' | h'
  · exact h'
  · rw [Array.getElem?_eq_none h'] at h; cases h
theorem blk_drew (w : World) (b : Nat) : blk w.drew b = blk w b := rfl
theorem fre_drew (w : World) (b : Nat) : fre w.drew b = fre w b := rfl
theorem heap_alloc (w : World) (o : Obj) (b : Nat) : (w.alloc o).heap[b]? = if b = w.heap.size then some o else w.heap[b]? := by
  show (w.heap.push o)[b]? = _
  rw [Array.getElem?_push]
theorem blk_alloc (w : World) (c : Array Value) (e : TypeId) (b : Nat) : blk (w.alloc (.cells c e)) b = if b = w.heap.size then some c else blk w b := by
  by_cases h : b = w.heap.size
  · subst h; unfold blk; rw [heap_alloc, if_pos rfl, if_pos rfl]
  · unfold blk; rw [heap_alloc, if_neg h, if_neg h]
theorem fre_alloc (w : World) (c : Array Value) (e : TypeId) (b : Nat) : fre (w.alloc (.cells c e)) b = if b = w.heap.size then true else fre w b := by
  by_cases h : b = w.heap.size
  · subst h; unfold fre; rw [heap_alloc, if_pos rfl, if_pos rfl]; simp
  · unfold fre; rw [heap_alloc, if_neg h, if_neg h]
theorem Below.blk {B b : Nat} {w w' : World} (h : Below B w w') (hb : b < B) : blk w' b = Sh.blk w b := by
  unfold Sh.blk; rw [h.block b hb]
theorem Below.fre {B b : Nat} {w w' : World} (h : Below B w w') (hb : b < B) : fre w' b = Sh.fre w b := by
  unfold Sh.fre; rw [h.block b hb]
theorem cell_blk {w : World} {b : Nat} {c : Array Value} (h : blk w b = some c) (o : Nat) : w.cell? ⟨b, o, none⟩ = c[o]? := by
  unfold blk at h
  unfold World.cell?
  split at h
  · rename_i c' e fz hb
    simp only [Option.some.injEq] at h
    subst h
    simp [hb]
  · cases h
theorem frozen_blk {w : World} {b : Nat} {c : Array Value} (h : blk w b = some c) (hf : fre w b = true) {o : Nat} (ho : o < c.size) : w.frozen? ⟨b, o, none⟩ = false := by
  unfold blk at h
  unfold fre at hf
  unfold World.frozen?
  split at h
  · rename_i c' e fz hb
    simp only [Option.some.injEq] at h
    subst h
    rw [hb] at hf
    simp only [decide_eq_true_eq] at hf
    simp only [hb]
    simp only [Bool.and_eq_false_iff, decide_eq_false_iff_not]
    omega
  · cases h
/-- What a row of cells reads as. -/
def rdv (t : Ty) (c : Array Value) (o : Nat) : Option t.den := if o + t.size ≤ c.size then decs t ((c.toList.drop o).take t.size) else none
theorem rds_blk {w : World} {b : Nat} {c : Array Value} (h : blk w b = some c) (o : Nat) : ∀ (n i : Nat), o + i + n ≤ c.size → rds ⟨b, o, none⟩ i n w = some (((c.toList.drop (o + i)).take n), w)
  | 0, i, _ => by simp [rds, ret]
  | n + 1, i, hn => by
    have hlt : o + i < c.size := by omega
    have ha : (Addr.add ⟨b, o, none⟩ i) = ⟨b, o + i, none⟩ := by
      unfold Addr.add; split
      · rename_i h0; subst h0; rfl
      · rfl
    have hr : rd (Addr.add ⟨b, o, none⟩ i) w = some (c[o + i], w) := by
      rw [ha, rd_some]
      exact ⟨by rw [cell_blk h]; exact Array.getElem?_eq_getElem hlt, rfl⟩
    simp only [rds]
    unfold bnd
    rw [hr]
    simp only
    have := rds_blk h o n (i + 1) (by omega)
    rw [this]
    simp only [ret]
    have hd : c.toList.drop (o + i) = c[o + i] :: c.toList.drop (o + (i + 1)) := by
      rw [List.drop_eq_getElem_cons (by simpa using hlt)]
      simp [Nat.add_assoc]
    rw [hd]
    simp
theorem ld_blk {t : Ty} {w : World} {b o : Nat} {c : Array Value} {x : t.den} (h : blk w b = some c) (hx : rdv t c o = some x) : ld t ⟨b, o, none⟩ w = some (x, w) := by
  unfold rdv at hx
  split at hx
  · rename_i hle
    unfold ld bnd
    rw [rds_blk h o t.size 0 (by omega)]
    simp only [Nat.add_zero, hx, optM, ret]
  · cases hx
theorem ok_ld {t : Ty} {w : World} {b o : Nat} {c : Array Value} {x : t.den} {Q : t.den → World → Prop} (h : blk w b = some c) (hx : rdv t c o = some x) (hq : Q x w) : Ok (ld t ⟨b, o, none⟩) w Q :=
  ok_of (ld_blk h hx) hq
theorem ok_chk {t : Ty} {w : World} {b o : Nat} {c : Array Value} {x : t.den} {Q : Unit → World → Prop} (h : blk w b = some c) (hx : rdv t c o = some x) (hq : Q () w) : Ok (chk t ⟨b, o, none⟩ x) w Q := by
  refine ok_of (w' := w) (x := ()) ?_ hq
  unfold chk
  rw [if_pos (ld_blk h hx)]
theorem ok_newC {e : TypeId} {l : List Value} {w : World} {Q : Addr → World → Prop} : Ok (newC e l) w Q ↔ Q ⟨w.heap.size, 0, none⟩ (w.alloc (.cells l.toArray e)) :=
  ⟨fun ⟨_, _, h1, h2⟩ => by simp only [newC, Option.some.injEq, Prod.mk.injEq] at h1; obtain ⟨rfl, rfl⟩ := h1; exact h2, fun h => ⟨_, _, rfl, h⟩⟩
/-- Cells put one behind the other. -/
def splice (c : Array Value) (o : Nat) : List Value → Array Value
  | [] => c
  | v :: l => splice (c.setIfInBounds o v) (o + 1) l
theorem splice_size (o : Nat) (l : List Value) : ∀ (c : Array Value), (splice c o l).size = c.size := by
  induction l generalizing o with
  | nil => intro c; rfl
  | cons v l ih => intro c; simp [splice, ih]
/-- A block's cells as such. -/
def World.setBlk (w : World) (b : Nat) (c : Array Value) : World := { w with heap := w.heap.modify b fun
  | .cells _ e fz => .cells c e fz
  | o => o }
theorem heap_setBlk (w : World) (b : Nat) (c : Array Value) (i : Nat) (h : i ≠ b) : (World.setBlk w b c).heap[i]? = w.heap[i]? := by
  simp only [World.setBlk, Array.getElem?_modify]
  rw [if_neg (fun e => h e.symm)]
theorem blk_setBlk (w : World) (b : Nat) (c d : Array Value) (h : blk w b = some d) (i : Nat) : blk (World.setBlk w b c) i = if i = b then some c else blk w i := by
  by_cases hi : i = b
  · subst hi
    unfold blk at h ⊢
    simp only [World.setBlk, Array.getElem?_modify, if_true]
    split at h
    · rename_i c' e fz hb; simp [hb]
    · cases h
  · unfold blk; rw [heap_setBlk _ _ _ _ hi, if_neg hi]
theorem fre_setBlk (w : World) (b : Nat) (c d : Array Value) (h : blk w b = some d) (hs : c.size = d.size) (i : Nat) : fre (World.setBlk w b c) i = fre w i := by
  by_cases hi : i = b
  · subst hi
    unfold blk at h
    unfold fre
    simp only [World.setBlk, Array.getElem?_modify, if_true]
    split at h
    · rename_i c' e fz hb
      simp only [Option.some.injEq] at h
      subst h
      simp [hb, hs]
    · cases h
  · unfold fre; rw [heap_setBlk _ _ _ _ hi]
theorem size_setBlk (w : World) (b : Nat) (c : Array Value) : (World.setBlk w b c).heap.size = w.heap.size := by simp [World.setBlk]
theorem below_setBlk {B b : Nat} {a w : World} (h : Below B a w) (hb : B ≤ b) (c : Array Value) : Below B a (World.setBlk w b c) :=
  h.trans ⟨rfl, rfl, rfl, by simp [World.setBlk], fun k hk => heap_setBlk _ _ _ _ (by omega)⟩
theorem setCell_setBlk {w : World} {b : Nat} {c : Array Value} (h : blk w b = some c) (o : Nat) (v : Value) : w.setCell ⟨b, o, none⟩ v = World.setBlk w b (c.setIfInBounds o v) := by
  unfold blk at h
  split at h
  · rename_i c' e fz hb
    simp only [Option.some.injEq] at h
    subst h
    simp only [World.setCell, World.setBlk]
    congr 1
    apply Array.ext_getElem?
    intro i
    simp only [Array.getElem?_modify]
    split
    · rename_i hi
      subst hi
      simp [hb]
    · rfl
  · cases h
theorem setBlk_setBlk (w : World) (b : Nat) (c d : Array Value) : World.setBlk (World.setBlk w b c) b d = World.setBlk w b d := by
  simp only [World.setBlk]
  congr 1
  apply Array.ext_getElem?
  intro i
  simp only [Array.getElem?_modify]
  split
  · cases w.heap[i]? with
    | none => rfl
    | some o => cases o <;> rfl
  · rfl
theorem setBlk_same {w : World} {b : Nat} {c : Array Value} (h : blk w b = some c) : World.setBlk w b c = w := by
  unfold blk at h
  split at h
  · rename_i c' e fz hb
    simp only [Option.some.injEq] at h
    subst h
    have : w.heap.modify b (fun | .cells _ e fz => .cells c' e fz | o => o) = w.heap := by
      apply Array.ext_getElem?
      intro i
      simp only [Array.getElem?_modify]
      split
      · rename_i hi; subst hi; simp [hb]
      · rfl
    simp only [World.setBlk, this]
  · cases h
theorem wrs_blk {b o : Nat} : ∀ (l : List Value) (i : Nat) (w : World) (c : Array Value), blk w b = some c → fre w b = true → o + i + l.length ≤ c.size → l.all single = true →
    wrs ⟨b, o, none⟩ i l w = some ((), World.setBlk w b (splice c (o + i) l))
  | [], i, w, c, h, _, _, _ => by simp [wrs, ret, splice, setBlk_same h]
  | v :: l, i, w, c, h, hf, hn, ha => by
    simp only [List.length_cons] at hn
    simp only [List.all_cons, Bool.and_eq_true] at ha
    have hlt : o + i < c.size := by omega
    have haddr : (Addr.add ⟨b, o, none⟩ i) = ⟨b, o + i, none⟩ := by
      unfold Addr.add; split
      · rename_i h0; subst h0; rfl
      · rfl
    have hw : wr (Addr.add ⟨b, o, none⟩ i) v w = some ((), World.setBlk w b (c.setIfInBounds (o + i) v)) := by
      unfold wr
      rw [haddr, ha.1, cond_true, cell_blk h, Array.getElem?_eq_getElem hlt, frozen_blk h hf hlt, setCell_setBlk h]
      rfl
    have hb1 := blk_setBlk w b (c.setIfInBounds (o + i) v) c h b
    rw [if_pos rfl] at hb1
    have ih := wrs_blk (o := o) l (i + 1) (World.setBlk w b (c.setIfInBounds (o + i) v)) _ hb1 (by rw [fre_setBlk _ _ _ _ h (by simp)]; exact hf) (by simp; omega) ha.2
    simp only [wrs]
    unfold bnd
    rw [hw]
    simp only
    rw [ih, setBlk_setBlk]
    simp [splice, Nat.add_assoc]
theorem ok_wrs {b o : Nat} {l : List Value} {w : World} {c : Array Value} {Q : Unit → World → Prop} (h : blk w b = some c) (hf : fre w b = true) (hn : o + l.length ≤ c.size) (ha : l.all single = true)
    (hq : Q () (World.setBlk w b (splice c o l))) : Ok (wrs ⟨b, o, none⟩ 0 l) w Q :=
  ok_of (wrs_blk l 0 w c h hf (by omega) ha) hq
/-- A loop, by what holds ahead of each round and a measure. -/
theorem ok_loop {σ ρ : Type} {body : σ → M (σ ⊕ ρ)} {Q : ρ → World → Prop} (I : σ → World → Prop) (μ : σ → World → Nat)
    (step : ∀ s w, I s w → Ok (body s) w fun r w' => match r with | .inl s' => I s' w' ∧ μ s' w' < μ s w | .inr x => Q x w') : ∀ (s : σ) (w : World), I s w → Ok (loopM body s) w Q := by
  have key : ∀ n s w, μ s w = n → I s w → Ok (loopM body s) w Q := by
    intro n
    induction n using Nat.strongRecOn with
    | _ n ih =>
      intro s w hn hI
      rw [loopM_eq, ok_bnd]
      refine ok_mono (step s w hI) fun r w' h => ?_
      cases r with
      | inl s' => exact ih (μ s' w') (hn ▸ h.2) s' w' rfl h.1
      | inr x => rw [ok_ret]; exact h
  exact fun s w h => key _ s w rfl h
end Go.Sh
