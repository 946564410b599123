/-
  The call's own blocks and slices as one list: what each step does to it. No program in sight.
-/
import Derived.Test.YtckfidopkajpaaaShN
set_option linter.unusedVariables false
set_option linter.unusedSimpArgs false
namespace Go.Sh
set_option linter.unusedVariables false
open Go.RowKit
/-- A block of the call's own, or a slice of its own. -/
inductive It where
  | cells (b : Nat) (c : List Value)
  | own (s : Sl) (xs : List Value)
def It.at_ : It → Option Nat
  | .cells b _ => some b
  | .own s _ => s.a.map (·.block)
def It.In (w : World) : It → Prop
  | .cells b c => blk w b = some c.toArray ∧ fre w b = true
  | .own s xs => Own 0 w s xs
theorem own_raise {B B' : Nat} {w : World} {s : Sl} {xs : List Value} (h : Own B w s xs) (hb : ∀ a, s.a = some a → B' ≤ a.block) : Own B' w s xs := by
  obtain ⟨h1, h2, h3, h4⟩ := h
  refine ⟨h1, h2, h3, h4.imp id ?_⟩
  rintro ⟨b, c, h5, h6, h7⟩
  exact ⟨b, c, h5, hb _ h5, h7⟩
theorem own_lower {B B' : Nat} {w : World} {s : Sl} {xs : List Value} (h : Own B w s xs) (hB : B' ≤ B) : Own B' w s xs := by
  obtain ⟨h1, h2, h3, h4⟩ := h
  refine ⟨h1, h2, h3, h4.imp id ?_⟩
  rintro ⟨b, c, h5, h6, h7⟩
  exact ⟨b, c, h5, by omega, h7⟩
theorem own_least {B : Nat} {w : World} {s : Sl} {xs : List Value} (h : Own B w s xs) : ∀ a, s.a = some a → B ≤ a.block := by
  intro a ha
  rcases h.2.2.2 with ⟨h7, _⟩ | ⟨b', c', h7, h8, _⟩
  · rw [h7] at ha; cases ha
  · rw [h7] at ha; cases ha; exact h8
theorem blk_of {w w' : World} {b : Nat} (h : w'.heap[b]? = w.heap[b]?) : blk w' b = blk w b := by unfold blk; rw [h]
theorem fre_of {w w' : World} {b : Nat} (h : w'.heap[b]? = w.heap[b]?) : fre w' b = fre w b := by unfold fre; rw [h]
theorem It.In.lt {w : World} {it : It} (h : it.In w) {b : Nat} (hb : it.at_ = some b) : b < w.heap.size := by
  cases it with
  | cells b' c => simp only [It.at_, Option.some.injEq] at hb; subst hb; exact blk_lt h.1
  | own s xs =>
    simp only [It.at_, Option.map_eq_some_iff] at hb
    obtain ⟨a, ha, rfl⟩ := hb
    rcases h.2.2.2 with ⟨h5, _⟩ | ⟨b, c, h5, h6, h7, _⟩
    · rw [h5] at ha; cases ha
    · rw [h5] at ha; cases ha; exact blk_lt h7
theorem It.In.same {w w' : World} {it : It} (h : it.In w) (k : ∀ b, it.at_ = some b → w'.heap[b]? = w.heap[b]?) : it.In w' := by
  cases it with
  | cells b c => have := k b rfl; exact ⟨(blk_of this).trans h.1, (fre_of this).trans h.2⟩
  | own s xs =>
    obtain ⟨h1, h2, h3, h4⟩ := h
    refine ⟨h1, h2, h3, h4.imp id ?_⟩
    rintro ⟨b, c, h5, h6, h7, h8, h9⟩
    have := k b (by simp [It.at_, h5])
    exact ⟨b, c, h5, h6, (blk_of this).trans h7, (fre_of this).trans h8, h9⟩
/-- All but what S names is as it was. -/
structure Keep (S : Nat → Prop) (w w' : World) : Prop where
  os : w'.os = w.os
  tape : w'.tape = w.tape
  output : w'.output = w.output
  size : w.heap.size ≤ w'.heap.size
  block : ∀ k, k < w.heap.size → ¬ S k → w'.heap[k]? = w.heap[k]?
abbrev No : Nat → Prop := fun _ => False
theorem Keep.refl (S : Nat → Prop) (w : World) : Keep S w w := ⟨rfl, rfl, rfl, Nat.le_refl _, fun _ _ _ => rfl⟩
theorem Keep.trans {S S' : Nat → Prop} {a b c : World} (h : Keep S a b) (k : Keep S' b c) (hs : ∀ i, S' i → S i ∨ a.heap.size ≤ i) : Keep S a c :=
  ⟨k.os.trans h.os, k.tape.trans h.tape, k.output.trans h.output, Nat.le_trans h.size k.size, fun i hi hn => (k.block i (Nat.lt_of_lt_of_le hi h.size) (fun hs' => (hs i hs').elim hn (by omega))).trans (h.block i hi hn)⟩
theorem Keep.mono {S S' : Nat → Prop} {a b : World} (h : Keep S a b) (hs : ∀ i, i < a.heap.size → S i → S' i) : Keep S' a b := ⟨h.os, h.tape, h.output, h.size, fun i hi hn => h.block i hi (fun h' => hn (hs i hi h'))⟩
theorem Keep.of_below {B : Nat} {w w' : World} (h : Below B w w') : Keep (fun k => B ≤ k) w w' := ⟨h.os, h.tape, h.output, h.size, fun k _ hn => h.block k (by omega)⟩
theorem Keep.below {S : Nat → Prop} {B : Nat} {w w' : World} (h : Keep S w w') (hB : B ≤ w.heap.size) (hs : ∀ k, k < B → ¬ S k) : Below B w w' := ⟨h.os, h.tape, h.output, h.size, fun k hk => h.block k (by omega) (hs k hk)⟩
theorem Keep.all {w w' : World} (h : Keep No w w') : Below w.heap.size w w' := h.below (Nat.le_refl _) (fun _ _ h => h)
theorem Keep.of_size {w w' : World} (h : Below w.heap.size w w') : Keep No w w' := ⟨h.os, h.tape, h.output, h.size, fun k hk _ => h.block k hk⟩
/-- What a call holds. -/
structure Cx (S : Nat → Prop) (w0 w : World) (L : List It) : Prop where
  keep : Keep S w0 w
  held : ∀ it ∈ L, it.In w
  mine : ∀ it ∈ L, ∀ b, it.at_ = some b → S b ∨ w0.heap.size ≤ b
  apart : L.Pairwise fun x y => ∀ b, x.at_ = some b → y.at_ ≠ some b
variable {S S' : Nat → Prop} {w0 w w' : World} {L : List It}
theorem Cx.nil (S : Nat → Prop) (w : World) : Cx S w w [] := ⟨Keep.refl _ _, by simp, by simp, .nil⟩
theorem Cx.get (C : Cx S w0 w L) {i : Nat} {it : It} (h : L[i]? = some it) : it.In w := C.held it (List.mem_of_getElem? h)
theorem Cx.below (C : Cx No w0 w L) : Below w0.heap.size w0 w := C.keep.all
theorem Cx.size (C : Cx S w0 w L) : w0.heap.size ≤ w.heap.size := C.keep.size
/-- A call that writes S' alone, of which nothing here is. -/
theorem Cx.step (C : Cx S w0 w L) (k : Keep S' w w') (hs : ∀ i, S' i → S i ∨ w0.heap.size ≤ i) (hn : ∀ it ∈ L, ∀ b, it.at_ = some b → ¬ S' b) : Cx S w0 w' L :=
  ⟨C.keep.trans k hs, fun it hi => (C.held it hi).same fun b hb => k.block b ((C.held it hi).lt hb) (hn it hi b hb), C.mine, C.apart⟩
theorem Cx.call (C : Cx S w0 w L) (k : Below w.heap.size w w') : Cx S w0 w' L :=
  C.step (Keep.of_size k) (fun _ h => h.elim) (fun _ _ _ _ h => h)
theorem Cx.drew (C : Cx S w0 w L) : Cx S w0 w.drew L := C.call ((Below.refl _ _).drew)
theorem Cx.tail {it : It} (C : Cx S w0 w (it :: L)) : Cx S w0 w L := ⟨C.keep, fun x hx => C.held x (.tail _ hx), fun x hx => C.mine x (.tail _ hx), (List.pairwise_cons.1 C.apart).2⟩
theorem Cx.add (C : Cx S w0 w L) (k : Below w.heap.size w w') {it : It} (hi : it.In w') (hb : ∀ b, it.at_ = some b → w.heap.size ≤ b) : Cx S w0 w' (it :: L) := by
  have C' := C.call k
  refine ⟨C'.keep, ?_, ?_, List.pairwise_cons.2 ⟨fun y hy b h1 h2 => ?_, C'.apart⟩⟩
  · intro x hx; rcases List.mem_cons.1 hx with rfl | hx
    · exact hi
    · exact C'.held x hx
  · intro x hx b h; rcases List.mem_cons.1 hx with rfl | hx
    · right; have := hb b h; have := C.size; omega
    · exact C'.mine x hx b h
  · have := hb b h1
    have := (C.held y hy).lt h2
    omega
theorem Cx.addOwn (C : Cx S w0 w L) (k : Below w.heap.size w w') {s : Sl} {xs : List Value} (o : Own w.heap.size w' s xs) : Cx S w0 w' (.own s xs :: L) :=
  C.add k (own_lower o (Nat.zero_le _)) fun b hb => by
    simp only [It.at_, Option.map_eq_some_iff] at hb
    obtain ⟨a, ha, rfl⟩ := hb
    exact own_least o a ha
/-- One of them has turned. -/
theorem Cx.turn (C : Cx S w0 w L) {i : Nat} {old new : It} (hi : L[i]? = some old) (k : Keep S' w w') (hS : ∀ b, S' b → old.at_ = some b) (hnew : new.In w') (hat : new.at_ = old.at_) : Cx S w0 w' (L.set i new) := by
  have hlt : i < L.length := by
    rcases Nat.lt_or_ge i L.length with h | h
    · exact h
    · rw [List.getElem?_eq_none h] at hi; cases hi
  have hio : L[i] = old := by rw [List.getElem?_eq_getElem hlt] at hi; exact Option.some.inj hi
  have hap := List.pairwise_iff_getElem.1 C.apart
  refine ⟨C.keep.trans k fun b hb => C.mine old (List.mem_of_getElem? hi) b (hS b hb), ?_, ?_, List.pairwise_iff_getElem.2 ?_⟩
  · intro x hx
    obtain ⟨j, hj, rfl⟩ := List.getElem_of_mem hx
    rw [List.length_set] at hj
    rw [List.getElem_set]
    split
    · exact hnew
    · rename_i hne
      refine (C.held _ (List.getElem_mem hj)).same fun b hb => k.block b ((C.held _ (List.getElem_mem hj)).lt hb) fun hs => ?_
      have ho := hS b hs
      rcases Nat.lt_or_ge i j with h | h
      · exact hap i j hlt hj h b (by rw [hio]; exact ho) hb
      · exact hap j i hj hlt (by omega) b hb (by rw [hio]; exact ho)
  · intro x hx b hb
    obtain ⟨j, hj, rfl⟩ := List.getElem_of_mem hx
    rw [List.length_set] at hj
    rw [List.getElem_set] at hb
    split at hb
    · rw [hat] at hb; exact C.mine old (List.mem_of_getElem? hi) b hb
    · exact C.mine _ (List.getElem_mem hj) b hb
  · intro p q hp hq hpq b h1 h2
    rw [List.length_set] at hp hq
    rw [List.getElem_set] at h1 h2
    have := hap p q hp hq hpq b
    refine this ?_ ?_
    · split at h1
      · rename_i e; subst e; rw [hio, ← hat]; exact h1
      · exact h1
    · split at h2
      · rename_i e; subst e; rw [hio, ← hat]; exact h2
      · exact h2
theorem keep_setBlk (w : World) (b : Nat) (c : Array Value) : Keep (fun k => k = b) w (World.setBlk w b c) := ⟨rfl, rfl, rfl, by rw [size_setBlk]; exact Nat.le_refl _, fun k _ hn => heap_setBlk _ _ _ _ hn⟩
/-- Cells put one behind the other into a list. -/
def spl (c : List Value) (k : Nat) (l : List Value) : List Value := c.take k ++ l ++ c.drop (k + l.length)
theorem splice_spl (c : List Value) (k : Nat) (l : List Value) (h : k + l.length ≤ c.length) : splice c.toArray k l = (spl c k l).toArray := by
  apply Array.ext_getElem?
  intro i
  rw [splice_get l k c.toArray (by simpa using h) i]
  simp only [spl, List.getElem?_toArray, List.getElem?_append, List.length_append, List.length_take, List.getElem?_drop]
  by_cases h1 : i < k
  · rw [if_neg (by omega), if_pos (by omega), if_pos (by omega), List.getElem?_take_of_lt h1]
  · by_cases h2 : i < k + l.length
    · rw [if_pos (by omega), if_pos (by omega), if_neg (by omega)]
      congr 1; omega
    · rw [if_neg (by omega), if_neg (by omega)]
      congr 1; omega
variable {α : Type} {Q : α → World → Prop}
theorem ok_newL (C : Cx S w0 w L) {T : TypeId} {vs : List Value} {f : Addr → M α} (h : ∀ b w', Cx S w0 w' (.cells b vs :: L) → Ok (f ⟨b, 0, none⟩) w' Q) : Ok (bnd (newC T vs) f) w Q := by
  refine ok_bnd.2 (ok_newC.2 (h _ _ (C.add ((Below.refl _ _).alloc (Nat.le_refl _) _) ⟨by rw [blk_alloc, if_pos rfl], by rw [fre_alloc, if_pos rfl]⟩ fun b hb => ?_)))
  simp only [It.at_, Option.some.injEq] at hb
  omega
theorem ok_drawL (C : Cx S w0 w L) {f : Unit → M α} (h : ∀ w', Cx S w0 w' L → Ok (f ()) w' Q) : Ok (bnd drawM f) w Q := ok_bnd.2 (ok_drawM.2 (h _ C.drew))
theorem ok_rdL (C : Cx S w0 w L) (i : Nat) {t : Ty} {b k : Nat} {c : List Value} {x : t.den} {f : t.den → M α} (hi : L[i]? = some (.cells b c)) (hx : rdv t c.toArray k = some x) (hq : Ok (f x) w Q) : Ok (bnd (ld t (Addr.add ⟨b, 0, none⟩ k)) f) w Q :=
  ok_bnd.2 (ok_ldA (C.get hi).1 (by rw [Nat.zero_add]; exact hx) hq)
theorem ok_rdL0 (C : Cx S w0 w L) (i : Nat) {t : Ty} {b : Nat} {c : List Value} {x : t.den} {f : t.den → M α} (hi : L[i]? = some (.cells b c)) (hx : rdv t c.toArray 0 = some x) (hq : Ok (f x) w Q) : Ok (bnd (ld t ⟨b, 0, none⟩) f) w Q :=
  ok_bnd.2 (ok_ld (C.get hi).1 hx hq)
theorem ok_chkL (C : Cx S w0 w L) (i : Nat) {t : Ty} {b k : Nat} {c : List Value} {x : t.den} {f : Unit → M α} (hi : L[i]? = some (.cells b c)) (hx : rdv t c.toArray k = some x) (hq : Ok (f ()) w Q) : Ok (bnd (chk t (Addr.add ⟨b, 0, none⟩ k) x) f) w Q :=
  ok_bnd.2 (ok_chkA (C.get hi).1 (by rw [Nat.zero_add]; exact hx) hq)
theorem ok_chkL0 (C : Cx S w0 w L) (i : Nat) {t : Ty} {b : Nat} {c : List Value} {x : t.den} {f : Unit → M α} (hi : L[i]? = some (.cells b c)) (hx : rdv t c.toArray 0 = some x) (hq : Ok (f ()) w Q) : Ok (bnd (chk t ⟨b, 0, none⟩ x) f) w Q :=
  ok_bnd.2 (ok_chk (C.get hi).1 hx hq)
theorem ok_wrL (C : Cx S w0 w L) (i : Nat) {b k : Nat} {c vs : List Value} {f : Unit → M α} (hi : L[i]? = some (.cells b c)) (hn : k + vs.length ≤ c.length) (ha : vs.all single = true)
    (hq : ∀ w', Cx S w0 w' (L.set i (.cells b (spl c k vs))) → Ok (f ()) w' Q) : Ok (bnd (wrs (Addr.add ⟨b, 0, none⟩ k) 0 vs) f) w Q := by
  have hc := C.get hi
  rw [addr_add, Nat.zero_add]
  refine ok_bnd.2 (ok_wrs hc.1 hc.2 (by simpa using hn) ha (hq _ (C.turn hi (keep_setBlk w b _) (fun x hx => by rw [hx]; rfl) ?_ rfl)))
  have hs : (splice c.toArray k vs).size = c.toArray.size := splice_size _ _ _
  exact ⟨by rw [blk_setBlk _ _ _ _ hc.1, if_pos rfl, splice_spl c k vs hn], by rw [fre_setBlk _ _ _ _ hc.1 hs]; exact hc.2⟩
theorem ok_wrL0 (C : Cx S w0 w L) (i : Nat) {b : Nat} {c vs : List Value} {f : Unit → M α} (hi : L[i]? = some (.cells b c)) (hn : 0 + vs.length ≤ c.length) (ha : vs.all single = true)
    (hq : ∀ w', Cx S w0 w' (L.set i (.cells b (spl c 0 vs))) → Ok (f ()) w' Q) : Ok (bnd (wrs ⟨b, 0, none⟩ 0 vs) f) w Q := by
  have e : (⟨b, 0, none⟩ : Addr) = Addr.add ⟨b, 0, none⟩ 0 := by rw [addr_add]
  rw [e]
  exact ok_wrL C i hi hn ha hq
theorem ok_wrC (C : Cx S w0 w L) (i : Nat) {b k : Nat} {c vs : List Value} {f : Unit → M α} (c' : List Value) (hi : L[i]? = some (.cells b c)) (hn : k + vs.length ≤ c.length) (ha : vs.all single = true) (hc : spl c k vs = c')
    (hq : ∀ w', Cx S w0 w' (L.set i (.cells b c')) → Ok (f ()) w' Q) : Ok (bnd (wrs (Addr.add ⟨b, 0, none⟩ k) 0 vs) f) w Q := by
  subst hc; exact ok_wrL C i hi hn ha hq
theorem ok_wrC0 (C : Cx S w0 w L) (i : Nat) {b : Nat} {c vs : List Value} {f : Unit → M α} (hi : L[i]? = some (.cells b c)) (hn : c.length = vs.length) (ha : vs.all single = true)
    (hq : ∀ w', Cx S w0 w' (L.set i (.cells b vs)) → Ok (f ()) w' Q) : Ok (bnd (wrs ⟨b, 0, none⟩ 0 vs) f) w Q := by
  refine ok_wrL0 C i hi (by omega) ha ?_
  have : spl c 0 vs = vs := by simp [spl, ← hn]
  rw [this]; exact hq
theorem ok_newWrL (C : Cx S w0 w L) {T : TypeId} {vs us : List Value} {f : Addr → M α} (hn : vs.length = us.length) (ha : us.all single = true) (h : ∀ b w', Cx S w0 w' (.cells b us :: L) → Ok (f ⟨b, 0, none⟩) w' Q) :
    Ok (bnd (newC T vs) fun p => bnd (wrs p 0 us) fun _ => f p) w Q :=
  ok_newL C fun b w1 C => ok_wrC0 C 0 rfl hn ha fun w2 C => h b w2 C
/-- A call. -/
theorem ok_callL {β : Type} (C : Cx S w0 w L) {m : M β} {P : β → World → Prop} {f : β → M α} (hm : Ok m w P) (hB : ∀ r w', P r w' → Below w.heap.size w w') (hq : ∀ r w', P r w' → Cx S w0 w' L → Ok (f r) w' Q) : Ok (bnd m f) w Q :=
  ok_bnd.2 (ok_mono hm fun r w' h => hq r w' h (C.call (hB r w' h)))
theorem Cx.arr (C : Cx S w0 w L) {i : Nat} {s : Sl} {xs : List Value} (h : L[i]? = some (.own s xs)) : Arr w.heap.size w s xs := own_arr (C.get h)
/-- What was handed in, unless written. -/
theorem Cx.old (C : Cx No w0 w L) {s : Sl} {xs : List Value} (h : Arr w0.heap.size w0 s xs) : Arr w.heap.size w s xs := arr_size (arr_below h C.below)
theorem Cx.ret (C : Cx No w0 w L) {i : Nat} {s : Sl} {xs : List Value} (h : L[i]? = some (.own s xs)) : Own w0.heap.size w s xs :=
  own_raise (C.get h) fun a ha => (C.mine _ (List.mem_of_getElem? h) a.block (by simp [It.at_, ha])).elim False.elim id
end Go.Sh
