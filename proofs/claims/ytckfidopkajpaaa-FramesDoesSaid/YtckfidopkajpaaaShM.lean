/-
  Slices whose elements are one cell each: what they hold; made, appended to, cut, read and written.
-/
import Derived.Test.YtckfidopkajpaaaShL
import Derived.Deep.AppendSrc
import Derived.Laws.MakeOwn
set_option linter.unusedVariables false
set_option linter.unusedSimpArgs false
namespace Go.Sh
set_option linter.unusedVariables false
open Go.RowKit
/-- The slice's elements, below block B. -/
def Arr (B : Nat) (w : World) (s : Sl) (xs : List Value) : Prop :=
  s.len = xs.length ∧ s.len ≤ s.cap ∧ s.cap ≤ maxLen ∧ (xs = [] ∨ ∃ b o c, s.a = some ⟨b, o, none⟩ ∧ b < B ∧ blk w b = some c ∧ ∀ i, i < xs.length → c[o + i]? = xs[i]?)
theorem arr_mono {B B' : Nat} {w : World} {s : Sl} {xs : List Value} (h : Arr B w s xs) (hB : B ≤ B') : Arr B' w s xs := by
  obtain ⟨h1, h2, h3, h4⟩ := h
  refine ⟨h1, h2, h3, h4.imp id ?_⟩
  rintro ⟨b, o, c, h5, h6, h7⟩
  exact ⟨b, o, c, h5, by omega, h7⟩
theorem arr_below {B : Nat} {w w' : World} {s : Sl} {xs : List Value} (h : Arr B w s xs) (hb : Below B w w') : Arr B w' s xs := by
  obtain ⟨h1, h2, h3, h4⟩ := h
  refine ⟨h1, h2, h3, h4.imp id ?_⟩
  rintro ⟨b, o, c, h5, h6, h7, h8⟩
  exact ⟨b, o, c, h5, h6, (Go.Sh.Below.blk hb h6).trans h7, h8⟩
theorem arr_nil (B : Nat) (w : World) : Arr B w ⟨none, 0, 0⟩ [] := ⟨rfl, Nat.le_refl _, Nat.zero_le _, .inl rfl⟩
theorem arr_size {B : Nat} {w : World} {s : Sl} {xs : List Value} (h : Arr B w s xs) : Arr w.heap.size w s xs := by
  obtain ⟨h1, h2, h3, h4⟩ := h
  refine ⟨h1, h2, h3, h4.imp id ?_⟩
  rintro ⟨b, o, c, h5, h6, h7, h8⟩
  exact ⟨b, o, c, h5, blk_lt h7, h7, h8⟩
/-- The program's slice type. -/
structure SlT (P : Program) (T e : TypeId) (z : Value) (by_ : Nat) : Prop where
  under : P.underlying T = some (.slice e)
  info : ∃ i, P.info? e = some i ∧ i.size = 1 ∧ i.zero = some z ∧ i.bytes = by_
  cells : z.cells = #[z]
theorem ok_runV {P : Program} {t : Ty} {s : Sem Value} {w w' : World} {v : Value} {x : t.den} {Q : t.den → World → Prop} (h : s.run P w = .ok v w') (hd : dec1 t v = some x) (hq : Q x w') : Ok (runV P t s) w Q := by
  refine ok_of (w' := w') (x := x) ?_ hq
  unfold runV
  rw [h]
  simp only [hd]
theorem made_one (z : Value) (n : Nat) : (madeCells #[z] n) = (List.replicate n z).toArray := by
  apply Array.ext_getElem?
  intro i
  simp only [madeCells, List.getElem?_toArray, List.getElem?_replicate, Array.getElem?_map]
  by_cases h : i < n
  · simp [h, Array.getElem?_range, Nat.mod_one]
  · simp [h, Array.getElem?_range]
theorem zero_one (z : Value) (n : Nat) : Builtin.zeroCells #[z] n = (List.replicate n z).toArray := by
  have := made_one z n
  simp only [Builtin.zeroCells, madeCells] at this ⊢
  simpa using this
theorem ok_make {P : Program} {T e : TypeId} {z : Value} {by_ : Nat} (S : SlT P T e z by_) {l c : Int} {w : World} {Q : Sl → World → Prop} (h0 : 0 ≤ l) (h1 : l ≤ c) (h2 : (by_ : Int) * c ≤ 281474976710656) (h3 : c ≤ 9223372036854775807)
    (hq : Q ⟨some ⟨w.heap.size, 0, none⟩, l.toNat, c.toNat⟩ (w.alloc (.cells (List.replicate c.toNat z).toArray e))) : Ok (runV P .sl (Instr.makeSlice T (.int .i64 l) (.int .i64 c))) w Q := by
  obtain ⟨i, hi, hs, hz, hb⟩ := S.info
  have := run_make w T e i z S.under hi hz .i64 .i64 l c h0 h1 (by rw [hb]; exact h2) h3
  rw [hs, Nat.mul_one, S.cells, made_one] at this
  exact ok_runV this rfl hq
theorem arr_src {P : Program} {T e : TypeId} (hu : P.underlying T = some (.slice e)) {B : Nat} {w : World} {x : Sl} {ys : List Value} (H : Arr B w x ys) (h1 : ∀ u ∈ ys, u.oneCell' = true) : Src P 1 T (.slice x.a x.len x.cap) x.len ys w := by
  obtain ⟨a, len, cap⟩ := x
  obtain ⟨e1, e2, e3, e4⟩ := H
  simp only at e1 e2 e3 e4 ⊢
  subst e1
  cases a with
  | none =>
    rcases e4 with rfl | ⟨b, o, c, h, _⟩
    · exact Src.ofNil w hu cap
    · cases h
  | some a =>
    refine Src.ofSlice w hu a _ cap ys (by simp) ?_ h1
    intro j u hj
    rcases e4 with rfl | ⟨b, o, c, h5, h6, h7, h8⟩
    · simp at hj
    · simp only [Option.some.injEq] at h5
      subst h5
      have hjl : j < ys.length := by
        rcases Nat.lt_or_ge j ys.length with h | h
        · exact h
        · rw [List.getElem?_eq_none h] at hj; cases hj
      have : (Addr.add ⟨b, o, none⟩ j) = ⟨b, o + j, none⟩ := by
        unfold Addr.add; split
        · rename_i h0; subst h0; rfl
        · rfl
      rw [this, cell_blk h7, h8 j hjl, hj]
theorem arr_first {P : Program} {T e : TypeId} (hu : P.underlying T = some (.slice e)) {B : Nat} {w : World} {x : Sl} {ys : List Value} (H : Arr B w x ys) (h1 : ∀ u ∈ ys, u.oneCell' = true) :
    (Builtin.firstCells 1 x.len (.slice x.a x.len x.cap)).run P w = .ok ys.toArray w := (arr_src hu H h1).cells
/-- An append that finds no room. -/
theorem ok_append_new {P : Program} {T U V e : TypeId} {z : Value} {by_ : Nat} (S : SlT P T e z by_) {B : Nat} {w : World} {s : Sl} {x : Value} {n : Nat} {xs ys : List Value} {Q : Sl → World → Prop} (H : Arr B w s xs) (hx : ∀ u ∈ xs, u.oneCell' = true)
    (K : Src P 1 U x n ys w) (hcap : s.cap < s.len + n) (hby : (s.len + n) * by_ ≤ 140737488355328) (hlen : s.len + n ≤ maxLen)
    (hq : ∀ c, s.len + n ≤ c → c ≤ maxLen → Q ⟨some ⟨w.heap.size, 0, none⟩, s.len + n, c⟩ (w.drew.alloc (.cells (xs ++ ys ++ List.replicate (c - (s.len + n)) z).toArray e))) :
    Ok (runV P .sl (Builtin.append_ #[T, U] V #[.slice s.a s.len s.cap, x])) w Q := by
  obtain ⟨i, hi, hs, hz, hb⟩ := S.info
  have h1 := (arr_src (T := T) S.under H hx).cellsD
  rw [← hs] at h1 K
  have h63 : ((s.len + n : Nat) : Int) ≤ 9223372036854775807 := by simp only [maxLen] at hlen; omega
  have hr := run_append_grow_src w T U V e i z S.under hi hz s.a s.len s.cap xs h1 x n ys K hcap h63 (growslice_fits hcap (by rw [hb]; exact hby))
  have hc := hq (grownCap w (s.len + n) s.cap e) (grownCap_ge _ _ _ _) (grownCap_le_maxLen _ _ _ _ hlen)
  refine ok_runV hr rfl ?_
  have e1 : ((xs ++ ys).toArray ++ Builtin.zeroCells z.cells (grownCap w (s.len + n) s.cap e - (s.len + n))) = (xs ++ ys ++ List.replicate (grownCap w (s.len + n) s.cap e - (s.len + n)) z).toArray := by
    rw [S.cells, zero_one]; simp
  rw [e1]
  exact hc
theorem ok_ix {s : Sl} {a : Addr} {i : Int} {w : World} {Q : Addr → World → Prop} (ha : s.a = some a) (h0 : 0 ≤ i) (h1 : i < s.len) (hq : Q (a.add (i.toNat * 1)) w) : Ok (ix 1 s i) w Q := by
  unfold ix
  rw [ha]
  simp only
  rw [if_pos ⟨h0, h1⟩]
  exact ok_ret.2 hq
theorem rdv_int {k : IntKind} {c : Array Value} {o : Nat} {n : Int} (h : c[o]? = some (.int k n)) : rdv (.int k) c o = some n := by
  have ho : o < c.size := by
    rcases Nat.lt_or_ge o c.size with h' | h'
    · exact h'
    · rw [Array.getElem?_eq_none h'] at h; cases h
  unfold rdv
  rw [if_pos (by show o + 1 ≤ c.size; omega)]
  have : (c.toList.drop o).take (Ty.size (.int k)) = [.int k n] := by
    show (c.toList.drop o).take 1 = _
    rw [List.drop_eq_getElem_cons (by simpa using ho)]
    rw [Array.getElem?_eq_getElem ho] at h
    simp only [Option.some.injEq] at h
    simp [h]
  rw [this]
  simp [decs, dec, dInt]
/-- A number of a slice. -/
theorem ok_get {α : Type} {B : Nat} {w : World} {s : Sl} {k : IntKind} {l : List Int} {i : Int} {n : Int} {K : Int → M α} {Q : α → World → Prop} (H : Arr B w s (l.map (.int k))) (h0 : 0 ≤ i) (hl : l[i.toNat]? = some n)
    (hq : Ok (K n) w Q) : Ok (bnd (ix 1 s i) fun p => bnd (ld (.int k) p) K) w Q := by
  obtain ⟨e1, e2, e3, e4⟩ := H
  have hil : i.toNat < l.length := by
    rcases Nat.lt_or_ge i.toNat l.length with h | h
    · exact h
    · rw [List.getElem?_eq_none h] at hl; cases hl
  rcases e4 with e4 | ⟨b, o, c, h5, h6, h7, h8⟩
  · simp only [List.map_eq_nil_iff] at e4; subst e4; simp at hil
  refine ok_bnd.2 (ok_ix h5 h0 (by rw [e1]; simp; omega) ?_)
  refine ok_bnd.2 (ok_ldA h7 (rdv_int ?_) hq)
  rw [Nat.mul_one, h8 _ (by simpa using hil)]
  simp [hl]
theorem ok_bound {v : Int} {y : Nat} {w : World} {Q : Nat → World → Prop} (h0 : 0 ≤ v) (h1 : v ≤ y) (hq : Q v.toNat w) : Ok (bound v y) w Q := by
  unfold bound
  rw [if_pos ⟨h0, h1⟩]
  exact ok_ret.2 hq
/-- A slice cut: where, from, how long. -/
def cut (s : Sl) (lo hi : Nat) : Sl := ⟨if s.cap = lo then s.a else s.a.map (·.add (lo * 1)), hi - lo, s.cap - lo⟩
theorem ok_slc {s : Sl} {lo hi : Option Int} {w : World} {Q : Sl → World → Prop} (h0 : 0 ≤ lo.getD 0) (h1 : lo.getD 0 ≤ hi.getD s.len) (h2 : hi.getD s.len ≤ s.cap)
    (hq : Q (cut s (lo.getD 0).toNat (hi.getD s.len).toNat) w) : Ok (slc 1 s lo hi none) w Q := by
  unfold slc
  refine ok_bnd.2 (ok_ret.2 (ok_bnd.2 ?_))
  have e1 : Ok (boundO hi s.cap s.len) w fun m w' => m = (hi.getD s.len).toNat ∧ w' = w := by
    cases hi with
    | none => exact ok_ret.2 ⟨by simp, rfl⟩
    | some v => exact ok_bound (by simp at h1; omega) (by simpa using h2) ⟨rfl, rfl⟩
  refine ok_mono e1 ?_
  rintro m w1 ⟨rfl, rfl⟩
  refine ok_bnd.2 ?_
  have e2 : Ok (boundO lo (hi.getD s.len).toNat 0) w1 fun m w' => m = (lo.getD 0).toNat ∧ w' = w1 := by
    cases lo with
    | none => exact ok_ret.2 ⟨rfl, rfl⟩
    | some v => exact ok_bound (by simpa using h0) (by simp only [Option.getD_some] at h0 h1 ⊢; omega) ⟨rfl, rfl⟩
  refine ok_mono e2 ?_
  rintro m w2 ⟨rfl, rfl⟩
  exact ok_ret.2 hq
theorem arr_cut {B : Nat} {w : World} {s : Sl} {xs : List Value} (H : Arr B w s xs) {lo hi : Nat} (h1 : lo ≤ hi) (h2 : hi ≤ s.len) : Arr B w (cut s lo hi) ((xs.drop lo).take (hi - lo)) := by
  obtain ⟨e1, e2, e3, e4⟩ := H
  refine ⟨?_, ?_, ?_, ?_⟩
  · simp only [cut, List.length_take, List.length_drop]; omega
  · simp only [cut]; omega
  · simp only [cut]; omega
  · by_cases hz : hi - lo = 0
    · left; rw [hz]; simp
    · right
      rcases e4 with rfl | ⟨b, o, c, h5, h6, h7, h8⟩
      · simp at e1; omega
      · refine ⟨b, o + lo, c, ?_, h6, h7, fun i hi' => ?_⟩
        · simp only [cut]
          rw [if_neg (by omega), h5]
          simp only [Option.map_some, Nat.mul_one, Option.some.injEq]
          unfold Addr.add
          split
          · rename_i h0; subst h0; rfl
          · rfl
        · simp only [List.length_take, List.length_drop] at hi'
          rw [Nat.add_assoc, h8 (lo + i) (by omega), List.getElem?_take_of_lt (by omega), List.getElem?_drop]
theorem setCells_setBlk {b : Nat} : ∀ (l : List Value) (o : Nat) (w : World) (c : Array Value), blk w b = some c → w.setCells b o l = World.setBlk w b (splice c o l)
  | [], o, w, c, h => by simp [World.setCells, splice, setBlk_same h]
  | v :: l, o, w, c, h => by
    simp only [World.setCells]
    rw [setCell_setBlk h]
    have hb1 := blk_setBlk w b (c.setIfInBounds o v) c h b
    rw [if_pos rfl] at hb1
    rw [setCells_setBlk l (o + 1) _ _ hb1, setBlk_setBlk]
    rfl
/-- An append that finds room. -/
theorem ok_append_room {P : Program} {T U V e : TypeId} {z : Value} {by_ : Nat} (S : SlT P T e z by_) {w : World} {b o len cap : Nat} {c : Array Value} {x : Value} {n : Nat} {ys : List Value} {Q : Sl → World → Prop} (hb : blk w b = some c) (hf : fre w b = true)
    (K : Src P 1 U x n ys w) (hroom : len + n ≤ cap) (hsz : o + cap ≤ c.size) (hq : Q ⟨some ⟨b, o, none⟩, len + n, cap⟩ (World.setBlk w b (splice c (o + len) ys))) :
    Ok (runV P .sl (Builtin.append_ #[T, U] V #[.slice (some ⟨b, o, none⟩) len cap, x])) w Q := by
  obtain ⟨i, hi, hs, hz, hby⟩ := S.info
  have hl : ys.length = n := by have := K.newsLen; omega
  rw [← hs] at K
  have hr := run_append_room_src w T U V e i S.under hi b o len cap x n ys K hroom
    (fun j hj => by rw [hs, cell_blk hb, Array.getElem?_eq_getElem (by omega)]; rfl) (fun j hj => by rw [hs]; exact frozen_blk hb hf (by omega))
  rw [hs, Nat.mul_one, setCells_setBlk ys _ w c hb] at hr
  exact ok_runV hr rfl hq
/-- A slice of the call's own, from cell 0 of a block on. -/
theorem arr_new (w : World) (e : TypeId) (c : List Value) (len cap : Nat) (h1 : len ≤ cap) (h2 : cap ≤ maxLen) (h3 : len ≤ c.length) : Arr (w.heap.size + 1) (w.alloc (.cells c.toArray e)) ⟨some ⟨w.heap.size, 0, none⟩, len, cap⟩ (c.take len) := by
  refine ⟨by simp; omega, h1, h2, .inr ⟨_, 0, c.toArray, rfl, by omega, by rw [blk_alloc, if_pos rfl], fun i hi => ?_⟩⟩
  simp only [List.length_take] at hi
  rw [Nat.zero_add, List.getElem?_take_of_lt (by omega)]
  simp
/-- A slice of the call's own: a whole block from B on; it may be written. -/
def Own (B : Nat) (w : World) (s : Sl) (xs : List Value) : Prop :=
  s.len = xs.length ∧ s.len ≤ s.cap ∧ s.cap ≤ maxLen ∧ ((s.a = none ∧ s.cap = 0) ∨ ∃ b c, s.a = some ⟨b, 0, none⟩ ∧ B ≤ b ∧ blk w b = some c ∧ fre w b = true ∧ c.size = s.cap ∧ ∀ i, i < xs.length → c[i]? = xs[i]?)
theorem own_arr {B : Nat} {w : World} {s : Sl} {xs : List Value} (h : Own B w s xs) : Arr w.heap.size w s xs := by
  obtain ⟨h1, h2, h3, h4⟩ := h
  refine ⟨h1, h2, h3, ?_⟩
  rcases h4 with ⟨_, h5⟩ | ⟨b, c, h5, h6, h7, h8, h9, h10⟩
  · left; exact List.eq_nil_of_length_eq_zero (by omega)
  · exact .inr ⟨b, 0, c, h5, blk_lt h7, h7, fun i hi => by rw [Nat.zero_add]; exact h10 i hi⟩
theorem own_below {B B' : Nat} {w w' : World} {s : Sl} {xs : List Value} (h : Own B w s xs) (k : Below B' w w') (hB : ∀ a, s.a = some a → a.block < B') : Own B w' s xs := by
  obtain ⟨h1, h2, h3, h4⟩ := h
  refine ⟨h1, h2, h3, h4.imp id ?_⟩
  rintro ⟨b, c, h5, h6, h7, h8⟩
  have := hB _ h5
  exact ⟨b, c, h5, h6, (Go.Sh.Below.blk k this).trans h7, (Go.Sh.Below.fre k this).trans h8.1, h8.2⟩
theorem own_size {B : Nat} {w w' : World} {s : Sl} {xs : List Value} (h : Own B w s xs) (k : Below w.heap.size w w') : Own B w' s xs := by
  refine own_below h k fun a ha => ?_
  rcases h.2.2.2 with ⟨h5, _⟩ | ⟨b, c, h5, h6, h7, _⟩
  · rw [h5] at ha; cases ha
  · rw [h5] at ha; cases ha; exact blk_lt h7
theorem ok_build0 {P : Program} {T e : TypeId} {z : Value} {by_ : Nat} (S : SlT P T e z by_) {w : World} {Q : Sl → World → Prop} (hq : Q ⟨some ⟨w.heap.size, 0, none⟩, 0, 0⟩ (w.alloc (.cells #[] e))) : Ok (runV P .sl (Instr.buildSlice T 0 #[])) w Q := by
  obtain ⟨i, hi, hs, hz, hb⟩ := S.info
  refine ok_runV (v := .slice (some ⟨w.heap.size, 0, none⟩) 0 0) (w' := w.alloc (.cells #[] e)) ?_ rfl hq
  simp [Instr.buildSlice, run_underlying S.under, sizeOf, typeInfo, hi, Instr.fill, newRow]
  have : (Array.range 0) = (#[] : Array Nat) := Array.eq_empty_of_size_eq_zero (by simp)
  rw [this, Array.map_empty]
/-- What slices.Clone does with a slice that is not nil. -/
theorem ok_clone {P : Program} {T e : TypeId} {z : Value} {by_ : Nat} (S : SlT P T e z by_) {B : Nat} {w : World} {s : Sl} {xs : List Value} {Q : Sl → World → Prop} (H : Arr B w s xs) (h1 : ∀ u ∈ xs, u.oneCell' = true) (hby : s.len * by_ ≤ 140737488355328)
    (hq : ∀ r w', Own w.heap.size w' r xs → r.a ≠ none → Below w.heap.size w w' → w.heap.size < w'.heap.size → Q r w') :
    Ok (bnd (runV P .sl (Instr.buildSlice T 0 #[])) fun v1 => runV P .sl (Builtin.append_ #[T, T] T #[.slice v1.a v1.len v1.cap, .slice s.a s.len s.cap])) w Q := by
  refine ok_bnd.2 (ok_build0 S ?_)
  have hB1 : Below w.heap.size w (w.alloc (.cells #[] e)) := (Below.refl _ _).alloc (Nat.le_refl _) _
  have H1 : Arr w.heap.size (w.alloc (.cells #[] e)) s xs := arr_below (arr_size H) hB1
  by_cases hz : xs = []
  · subst hz
    have hl : s.len = 0 := H.1
    have hb0 : blk (w.alloc (.cells #[] e)) w.heap.size = some #[] := by rw [blk_alloc, if_pos rfl]
    have hf0 : fre (w.alloc (.cells #[] e)) w.heap.size = true := by rw [fre_alloc, if_pos rfl]
    refine ok_append_room S hb0 hf0 (arr_src S.under H1 h1) (by simp [hl]) (by simp) ?_
    rw [show splice #[] (0 + 0) [] = (#[] : Array Value) from rfl, setBlk_same hb0, hl]
    exact hq _ _ ⟨rfl, Nat.le_refl _, Nat.zero_le _, .inr ⟨_, _, rfl, Nat.le_refl _, hb0, hf0, rfl, fun i hi => by simp at hi⟩⟩ (by simp) hB1 (by simp)
  · have hl : s.len = xs.length := H.1
    have hpos : 0 < xs.length := List.length_pos_iff.2 hz
    refine ok_append_new S (B := 0) (xs := []) (s := ⟨some ⟨w.heap.size, 0, none⟩, 0, 0⟩) ⟨rfl, Nat.le_refl _, Nat.zero_le _, .inl rfl⟩ (by simp) (arr_src S.under H1 h1) (by simp; omega) (by simpa using hby) (by have := H.2.1; have := H.2.2.1; simp; omega) fun c hc1 hc2 => ?_
    simp only [Nat.zero_add] at hc1 ⊢
    have hB2 : Below w.heap.size w ((w.alloc (.cells #[] e)).drew.alloc (.cells ([] ++ xs ++ List.replicate (c - s.len) z).toArray e)) := (hB1.drew).alloc (by simp [World.drew]) _
    have hs1 : (w.alloc (.cells #[] e)).heap.size = (w.alloc (.cells #[] e)).drew.heap.size := rfl
    rw [hs1]
    refine hq _ _ ⟨hl, hc1, hc2, .inr ⟨_, _, rfl, by rw [← hs1]; simp, by rw [blk_alloc, if_pos rfl], by rw [fre_alloc, if_pos rfl], ?_, ?_⟩⟩ (by simp) hB2 (by simp [World.drew]; omega)
    · simp; omega
    · intro i hi
      simp [List.getElem?_append_left hi]
theorem addr_add (b o k : Nat) : (Addr.add ⟨b, o, none⟩ k) = ⟨b, o + k, none⟩ := by
  unfold Addr.add; split
  · rename_i h0; subst h0; rfl
  · rfl
theorem ok_wrA {b o k : Nat} {v : Value} {w : World} {c : Array Value} {Q : Unit → World → Prop} (h : blk w b = some c) (hf : fre w b = true) (hn : o + k < c.size) (hv : single v = true)
    (hq : Q () (World.setBlk w b (c.setIfInBounds (o + k) v))) : Ok (wrs (Addr.add ⟨b, o, none⟩ k) 0 [v]) w Q := by
  rw [addr_add]
  exact ok_wrs h hf (by simp; omega) (by simp [hv]) hq
end Go.Sh
