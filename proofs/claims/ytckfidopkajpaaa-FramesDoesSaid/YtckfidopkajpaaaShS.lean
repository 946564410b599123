/-
  Parts of the proof: ShS, ShT. It states what the functions do; no further condition.
-/
import Derived.Test.YtckfidopkajpaaaL05
import Derived.Test.YtckfidopkajpaaaShR
import Derived.Laws.IdiomStrings
set_option linter.unusedVariables false
set_option linter.unusedSimpArgs false
/-
  Texts and bytes: a text's bytes as numbers; texts out of slices and slices out of texts; a few elements at once. No program in sight.
-/
namespace Go.Sh
set_option linter.unusedVariables false
open Go.RowKit
variable {S : Nat → Prop} {w0 w : World} {L : List It} {α : Type} {Q : α → World → Prop} {k : IntKind}
/-- A text's bytes. -/
def bl (d : ByteArray) : List Int := d.data.toList.map fun u => (u.toNat : Int)
/-- A text of bytes. -/
def mkB (l : List Int) : ByteArray := ⟨(l.map fun n => UInt8.ofNat n.toNat).toArray⟩
theorem bl_length (d : ByteArray) : (bl d).length = d.size := by simp [bl]
theorem dg_bl (d : ByteArray) : Dg 256 (bl d) := fun x hx => by
  obtain ⟨u, _, rfl⟩ := List.mem_map.1 hx
  have := u.toNat_lt
  exact ⟨by omega, by omega⟩
theorem mkB_bl (d : ByteArray) : mkB (bl d) = d := by
  unfold mkB bl
  rw [List.map_map]
  have : ((fun n : Int => UInt8.ofNat n.toNat) ∘ fun u : UInt8 => (u.toNat : Int)) = id := by
    funext u; simp
  rw [this, List.map_id]
theorem bl_mkB {l : List Int} (h : Dg 256 l) : bl (mkB l) = l := by
  unfold mkB bl
  simp only [List.map_map]
  conv => rhs; rw [← List.map_id l]
  refine List.map_congr_left fun n hn => ?_
  have h1 := h n hn
  simp only [Function.comp, UInt8.toNat_ofNat', id]
  omega
theorem mkB_size (l : List Int) : (mkB l).size = l.length := by simp [mkB, ByteArray.size]
theorem bl_inj {a b : ByteArray} (h : bl a = bl b) : a = b := by rw [← mkB_bl a, ← mkB_bl b, h]
theorem mkB_inj {l m : List Int} (hl : Dg 256 l) (hm : Dg 256 m) (h : mkB l = mkB m) : l = m := by rw [← bl_mkB hl, ← bl_mkB hm, h]
theorem mkB_nil : mkB [] = ByteArray.mk #[] := rfl
theorem bl_nil : bl (ByteArray.mk #[]) = [] := rfl
theorem size_zero {d : ByteArray} (h : d.size = 0) : d = ByteArray.mk #[] := by
  have : (bl d).length = 0 := by rw [bl_length, h]
  rw [← mkB_bl d, List.eq_nil_of_length_eq_zero this, mkB_nil]
theorem toList_eq (a : ByteArray) : a.toList = a.data.toList := by
  have key : ∀ (n i : Nat) (r : List UInt8), a.size - i = n → ByteArray.toList.loop a i r = r.reverse ++ a.data.toList.drop i := by
    intro n
    induction n with
    | zero =>
      intro i r hn
      unfold ByteArray.toList.loop
      rw [if_neg (by omega), List.drop_of_length_le (by simp only [Array.length_toList]; show a.size ≤ i; omega), List.append_nil]
    | succ n ih =>
      intro i r hn
      unfold ByteArray.toList.loop
      have hlt : i < a.size := by omega
      rw [if_pos hlt, ih (i + 1) _ (by omega)]
      have hlt' : i < a.data.toList.length := by simpa using hlt
      rw [List.drop_eq_getElem_cons hlt', List.reverse_cons, List.append_assoc]
      congr 1
      simp only [List.singleton_append, List.cons.injEq, and_true]
      obtain ⟨a⟩ := a
      show a[i]! = _
      rw [getElem!_pos a i hlt, Array.getElem_toList]
  unfold ByteArray.toList
  rw [key _ 0 [] rfl]; simp
theorem strEq_eq (a b : ByteArray) : strEq a b = decide (a = b) := by
  unfold strEq
  rw [toList_eq, toList_eq]
  rw [Bool.eq_iff_iff, beq_iff_eq, decide_eq_true_eq]
  constructor
  · intro h
    obtain ⟨a⟩ := a; obtain ⟨b⟩ := b
    simp only [ByteArray.mk.injEq]
    exact Array.ext' h
  · rintro rfl; rfl
theorem bl_get {s : ByteArray} {i : Nat} {t : Int} (h : (bl s)[i]? = some t) : ∃ u : UInt8, s[i]? = some u ∧ (u.toNat : Int) = t := by
  unfold bl at h
  rw [List.getElem?_map, Option.map_eq_some_iff] at h
  obtain ⟨u, h1, h2⟩ := h
  refine ⟨u, ?_, h2⟩
  rw [Array.getElem?_toList] at h1
  have hlt : i < s.data.size := by
    rcases Nat.lt_or_ge i s.data.size with h | h
    · exact h
    · rw [Array.getElem?_eq_none h] at h1; cases h1
  rw [getElem?_pos s i hlt]
  rw [Array.getElem?_eq_getElem hlt] at h1
  exact h1
/-- A byte of a text. -/
theorem ok_ixB {s : ByteArray} {i : Int} {t : Int} {f : Int → M α} (h0 : 0 ≤ i) (h : (bl s)[i.toNat]? = some t) (hq : Ok (f t) w Q) : Ok (bnd (ixS s i) f) w Q := by
  obtain ⟨u, h1, h2⟩ := bl_get h
  refine ok_bnd.2 ?_
  unfold ixS
  rw [if_pos h0, h1]
  rw [← h2] at hq
  exact ok_ret.2 hq
/-- A text out of a slice of bytes. -/
theorem ok_toStr {P : Program} {T R e : TypeId} {B : Nat} {s : Sl} {l : List Int} (hs : P.underlying T = some (.slice e)) (he : P.underlying e = some (.int .u8)) (hd : P.underlying R = some .string) (H : Arr B w s (nums .u8 l)) (hl : Dg 256 l) {f : ByteArray → M α} (hq : Ok (f (mkB l)) w Q) :
    Ok (bnd (runV P .str (convert T R (.slice s.a s.len s.cap))) f) w Q := by
  obtain ⟨e1, e2, e3, e4⟩ := H
  have el : s.len = l.length := by simpa using e1
  refine ok_bnd.2 ?_
  cases ha : s.a with
  | none =>
    have hn : l = [] := by
      rcases e4 with h | ⟨b, o, c, h5, _⟩
      · simpa using h
      · rw [ha] at h5; cases h5
    subst hn
    have hr := run_convert_bytes_string (P := P) w T R e none s.len s.cap hs he hd
    exact ok_runV (v := .string ByteArray.empty) (w' := w) (x := ByteArray.empty) (by rw [hr]; rfl) rfl hq
  | some a =>
    have hl2 : (l.map fun n => UInt8.ofNat n.toNat).length = s.len := by simp [el]
    have hr := run_convert_bytes_back (P := P) w T R e a s.cap (l.map fun n => UInt8.ofNat n.toNat) hs he hd (fun j hj => by
      have hj' : j < l.length := by simpa using hj
      rcases e4 with h | ⟨b, o, c, h5, h6, h7, h8⟩
      · simp at h; subst h; simp at hj'
      · rw [ha, Option.some.injEq] at h5
        subst h5
        rw [addr_add, cell_blk h7, h8 j (by simpa using hj')]
        have h9 := hl (l[j]) (List.getElem_mem hj')
        simp only [nums, List.getElem?_map, List.getElem?_eq_getElem hj', Option.map_some, List.getElem_map, UInt8.toNat_ofNat']
        congr 2
        omega)
    rw [hl2] at hr
    exact ok_runV hr (x := mkB l) rfl hq
/-- A slice of bytes out of a text. -/
theorem ok_toBytes {P : Program} {T R e : TypeId} (C : Cx S w0 w L) {s : ByteArray} (hs : P.underlying R = some .string) (hd : P.underlying T = some (.slice e)) (he : P.underlying e = some (.int .u8)) (hsz : s.size ≤ maxLen) {f : Sl → M α}
    (hq : ∀ r w', Cx S w0 w' (.own r (nums .u8 (bl s)) :: L) → r.len = s.size → Ok (f r) w' Q) : Ok (bnd (runV P .sl (convert R T (.string s))) f) w Q := by
  refine ok_bnd.2 (ok_runV (run_bytes_of_string (P := P) w R T e s hs hd he) (t := .sl) (x := (⟨some ⟨w.heap.size, 0, none⟩, s.size, grownCap w s.size 0 e⟩ : Sl)) rfl (hq _ _ ?_ rfl))
  have hge := grownCap_ge w s.size 0 e
  have hle := grownCap_le_maxLen w s.size 0 e hsz
  have hrow : bytesRow s (grownCap w s.size 0 e) = (nums .u8 (bl s) ++ List.replicate (grownCap w s.size 0 e - s.size) (Value.int .u8 0)).toArray := by
    unfold bytesRow
    apply Array.ext'
    simp [nums, bl]
  have hsz2 : (bytesRow s (grownCap w s.size 0 e)).size = grownCap w s.size 0 e := by rw [hrow]; simp [bl_length]; omega
  generalize grownCap w s.size 0 e = cap at *
  have hB : Below w.heap.size w (w.drew.alloc (.cells (bytesRow s cap) e ((bytesRow s cap).size, (bytesRow s cap).size + 1))) := ((Below.refl _ _).drew).alloc (show w.heap.size ≤ w.drew.heap.size from Nat.le_refl _) _
  refine C.addOwn hB ⟨by simp [bl_length], hge, hle, .inr ⟨w.heap.size, bytesRow s cap, rfl, Nat.le_refl _, ?_, ?_, hsz2, fun i hi => ?_⟩⟩
  · unfold blk
    rw [heap_alloc, if_pos (show w.heap.size = w.drew.heap.size from rfl)]
  · unfold fre
    rw [heap_alloc, if_pos (show w.heap.size = w.drew.heap.size from rfl)]
    simp
  · rw [hrow, List.getElem?_toArray, List.getElem?_append_left hi]
theorem ok_ordL (C : Cx S w0 w L) {F : FuncId} {n : Nat} {ops : Array Oper} {f : List Nat → M α} (h : ∀ o w', Cx S w0 w' L → Ok (f o) w' Q) : Ok (bnd (ordM F n ops) f) w Q :=
  ok_bnd.2 ⟨_, _, rfl, h _ _ C.drew⟩
/-- Some elements at once. -/
theorem ok_buildL2 {P : Program} {T e : TypeId} {z : Value} {by_ : Nat} (SL : SlT P T e z by_) (v0 v1 : Value) (h0 : v0.cells = #[v0]) (h1 : v1.cells = #[v1]) {Q : Sl → World → Prop} (hq : Q ⟨some ⟨w.heap.size, 0, none⟩, 2, 2⟩ (w.alloc (.cells [v0, v1].toArray e))) : Ok (runV P .sl (Instr.buildSlice T 2 #[(0, v0), (1, v1)])) w Q := by
  obtain ⟨i, hi, hs, hz, hb⟩ := SL.info
  refine ok_runV (v := .slice (some ⟨w.heap.size, 0, none⟩) 2 2) (w' := w.alloc (.cells [v0, v1].toArray e)) ?_ rfl hq
  simp [Instr.buildSlice, run_underlying SL.under, sizeOf, typeInfo, zeroValue, hi, hz, hs, Instr.fill, newRow, SL.cells]
  rw [show (Array.range 2) = #[0, 1] from by decide]
  simp [h0, h1]
theorem ok_buildL4 {P : Program} {T e : TypeId} {z : Value} {by_ : Nat} (SL : SlT P T e z by_) (v0 v1 v2 v3 : Value) (h0 : v0.cells = #[v0]) (h1 : v1.cells = #[v1]) (h2 : v2.cells = #[v2]) (h3 : v3.cells = #[v3]) {Q : Sl → World → Prop} (hq : Q ⟨some ⟨w.heap.size, 0, none⟩, 4, 4⟩ (w.alloc (.cells [v0, v1, v2, v3].toArray e))) :
    Ok (runV P .sl (Instr.buildSlice T 4 #[(0, v0), (1, v1), (2, v2), (3, v3)])) w Q := by
  obtain ⟨i, hi, hs, hz, hb⟩ := SL.info
  refine ok_runV (v := .slice (some ⟨w.heap.size, 0, none⟩) 4 4) (w' := w.alloc (.cells [v0, v1, v2, v3].toArray e)) ?_ rfl hq
  simp [Instr.buildSlice, run_underlying SL.under, sizeOf, typeInfo, zeroValue, hi, hz, hs, Instr.fill, newRow, SL.cells]
  rw [show (Array.range 4) = #[0, 1, 2, 3] from by decide]
  simp [h0, h1, h2, h3]
theorem Cx.buildN {e : TypeId} {vs : List Value} (C : Cx S w0 w L) (n : Nat) (hn : vs.length = n) (hm : n ≤ maxLen) : Cx S w0 (w.alloc (.cells vs.toArray e)) (.own ⟨some ⟨w.heap.size, 0, none⟩, n, n⟩ vs :: L) :=
  C.add ((Below.refl _ _).alloc (Nat.le_refl _) _) ⟨hn.symm, Nat.le_refl _, hm, .inr ⟨w.heap.size, _, rfl, Nat.zero_le _, by rw [blk_alloc, if_pos rfl], by rw [fre_alloc, if_pos rfl], by simp [hn], fun i hi => by simp⟩⟩ (by simp [It.at_])
/-- What a computation answers, whatever the world; it leaves all as it was. -/
def Is (m : M α) (r : α) : Prop := ∀ w, Ok m w fun x w' => Below w.heap.size w w' ∧ x = r
theorem ok_is {β : Type} (C : Cx S w0 w L) {m : M β} {r : β} (h : Is m r) {f : β → M α} (hq : ∀ w', Cx S w0 w' L → Ok (f r) w' Q) : Ok (bnd m f) w Q :=
  ok_callL C (h w) (fun _ _ h => h.1) (by rintro _ w' ⟨_, rfl⟩ C; exact hq w' C)
theorem is_of {m : M α} {r : α} (h : ∀ w, Ok m w fun x w' => (∃ L, Cx No w w' L) ∧ x = r) : Is m r :=
  fun w => ok_mono (h w) fun _ _ ⟨⟨_, C⟩, hx⟩ => ⟨C.below, hx⟩
end Go.Sh

/-
  Records of a truth and a text, of a slice and a truth: made, read, written; results that a call owns, joined to what is held. No program in sight.
-/
namespace Go.Sh
set_option linter.unusedVariables false
open Go.RowKit
variable {S : Nat → Prop} {w0 w w' : World} {L : List It} {α : Type} {Q : α → World → Prop} {k : IntKind}
/-- What a call owns behind it, joined to what was held. -/
theorem Cx.join {M : List It} (C : Cx S w0 w L) (D : Cx No w w' M) : Cx S w0 w' (M ++ L) := by
  have C' := C.call D.below
  refine ⟨C'.keep, ?_, ?_, ?_⟩
  · intro it hi
    rcases List.mem_append.1 hi with h | h
    · exact D.held it h
    · exact C'.held it h
  · intro it hi b hb
    rcases List.mem_append.1 hi with h | h
    · have := (D.mine it h b hb).resolve_left id
      have := C.size
      right; omega
    · exact C'.mine it h b hb
  · refine List.pairwise_append.2 ⟨D.apart, C'.apart, ?_⟩
    intro x hx y hy b h1 h2
    have := (D.mine x hx b h1).resolve_left id
    have := (C.held y hy).lt h2
    omega
theorem ok_join {β : Type} (C : Cx S w0 w L) {m : M β} {P : β → World → Prop} {N : β → List It} {f : β → Go.Sh.M α} (hm : Ok m w P) (hP : ∀ r w', P r w' → Cx No w w' (N r)) (hq : ∀ r w', P r w' → Cx S w0 w' (N r ++ L) → Ok (f r) w' Q) : Ok (bnd m f) w Q :=
  ok_bnd.2 (ok_mono hm fun r w' h => hq r w' h (C.join (hP r w' h)))
/-- A slice with no element and some room. -/
theorem ok_makeC {P : Program} {T e : TypeId} {k : IntKind} {by_ : Nat} (SL : SlT P T e (.int k 0) by_) (C : Cx S w0 w L) {n : Int} (h0 : 0 ≤ n) (h2 : (by_ : Int) * n ≤ 281474976710656) (h3 : n ≤ 9223372036854775807) {f : Sl → Go.Sh.M α}
    (hq : ∀ r w', r.len = 0 → Cx S w0 w' (.own r (nums k []) :: L) → Ok (f r) w' Q) : Ok (bnd (runV P .sl (Instr.makeSlice T (.int .i64 0) (.int .i64 n))) f) w Q := by
  refine ok_bnd.2 (ok_make SL (Int.le_refl _) h0 h2 h3 (hq _ _ rfl (C.addOwn ((Below.refl _ _).alloc (Nat.le_refl _) _) ⟨by simp, Nat.zero_le _, ?_, .inr ⟨w.heap.size, _, rfl, Nat.le_refl _, by rw [blk_alloc, if_pos rfl], by rw [fre_alloc, if_pos rfl], by simp, fun j hj => by simp at hj⟩⟩)))
  have : maxLen = 9223372036854775807 := by decide
  show n.toNat ≤ maxLen
  omega
/-! A truth and a text -/
theorem ok_ldA1 (C : Cx S w0 w L) (i : Nat) {b : Nat} {x : Bool × ByteArray} (hi : L[i]? = some (.cells b [.bool x.1, .string x.2])) {f : Bool × ByteArray → Go.Sh.M α} (hq : Ok (f x) w Q) : Ok (bnd (ld (.agg (.pair .bool .str)) ⟨b, 0, none⟩) f) w Q := ok_rdL0 C i hi rfl hq
theorem ok_ldA2 (C : Cx S w0 w L) (i : Nat) {b : Nat} {n : Bool} {d : ByteArray} (hi : L[i]? = some (.cells b [.bool n, .string d])) {f : Bool × ByteArray → Go.Sh.M α} (hq : Ok (f (n, d)) w Q) : Ok (bnd (ld (.agg (.pair .bool .str)) ⟨b, 0, none⟩) f) w Q := ok_rdL0 C i hi rfl hq
theorem ok_ldA3 (C : Cx S w0 w L) (i : Nat) {b : Nat} {n : Bool} {d : ByteArray} (hi : L[i]? = some (.cells b [.bool n, .string d])) {f : Bool → Go.Sh.M α} (hq : Ok (f n) w Q) : Ok (bnd (ld .bool (Addr.add ⟨b, 0, none⟩ 0)) f) w Q := ok_rdL C i hi rfl hq
theorem ok_ldA4 (C : Cx S w0 w L) (i : Nat) {b : Nat} {n : Bool} {d : ByteArray} (hi : L[i]? = some (.cells b [.bool n, .string d])) {f : ByteArray → Go.Sh.M α} (hq : Ok (f d) w Q) : Ok (bnd (ld .str (Addr.add ⟨b, 0, none⟩ 1)) f) w Q := ok_rdL C i hi rfl hq
theorem ok_chA1 (C : Cx S w0 w L) (i : Nat) {b : Nat} {x : Bool × ByteArray} (hi : L[i]? = some (.cells b [.bool x.1, .string x.2])) {f : Unit → Go.Sh.M α} (hq : Ok (f ()) w Q) : Ok (bnd (chk (.agg (.pair .bool .str)) ⟨b, 0, none⟩ x) f) w Q := ok_chkL0 C i hi rfl hq
theorem ok_chA2 (C : Cx S w0 w L) (i : Nat) {b : Nat} {n : Bool} {d : ByteArray} (hi : L[i]? = some (.cells b [.bool n, .string d])) {f : Unit → Go.Sh.M α} (hq : Ok (f ()) w Q) : Ok (bnd (chk (.agg (.pair .bool .str)) ⟨b, 0, none⟩ (n, d)) f) w Q := ok_chkL0 C i hi rfl hq
theorem ok_chA3 (C : Cx S w0 w L) (i : Nat) {b : Nat} {n : Bool} {d : ByteArray} (hi : L[i]? = some (.cells b [.bool n, .string d])) {f : Unit → Go.Sh.M α} (hq : Ok (f ()) w Q) : Ok (bnd (chk .bool (Addr.add ⟨b, 0, none⟩ 0) n) f) w Q := ok_chkL C i hi rfl hq
theorem ok_wrA1 (C : Cx S w0 w L) (i : Nat) {b : Nat} {n n' : Bool} {d d' : ByteArray} (hi : L[i]? = some (.cells b [.bool n, .string d])) {f : Unit → Go.Sh.M α} (hq : ∀ w', Cx S w0 w' (L.set i (.cells b [.bool n', .string d'])) → Ok (f ()) w' Q) : Ok (bnd (wrs ⟨b, 0, none⟩ 0 [.bool n', .string d']) f) w Q := ok_wrC0 C i hi rfl rfl hq
/-! A slice and a truth -/
theorem ok_ldN1 (C : Cx S w0 w L) (i : Nat) {b : Nat} {s : Sl} {n : Bool} (hi : L[i]? = some (.cells b [.slice s.a s.len s.cap, .bool n])) {f : Sl × Bool → Go.Sh.M α} (hq : Ok (f (s, n)) w Q) : Ok (bnd (ld (.agg (.pair .sl .bool)) ⟨b, 0, none⟩) f) w Q := ok_rdL0 C i hi rfl hq
theorem ok_ldN2 (C : Cx S w0 w L) (i : Nat) {b : Nat} {n : Bool} {a : Option Addr} {l c : Nat} (hi : L[i]? = some (.cells b [.slice a l c, .bool n])) {f : Sl × Bool → Go.Sh.M α} (hq : Ok (f (⟨a, l, c⟩, n)) w Q) : Ok (bnd (ld (.agg (.pair .sl .bool)) ⟨b, 0, none⟩) f) w Q := ok_rdL0 C i hi rfl hq
theorem ok_ldN3 (C : Cx S w0 w L) (i : Nat) {b : Nat} {n : Bool} {s : Sl} (hi : L[i]? = some (.cells b [.slice s.a s.len s.cap, .bool n])) {f : Sl → Go.Sh.M α} (hq : Ok (f s) w Q) : Ok (bnd (ld .sl (Addr.add ⟨b, 0, none⟩ 0)) f) w Q := ok_rdL C i hi rfl hq
theorem ok_ldN4 (C : Cx S w0 w L) (i : Nat) {b : Nat} {n : Bool} {v : Value} (hi : L[i]? = some (.cells b [v, .bool n])) {f : Bool → Go.Sh.M α} (hq : Ok (f n) w Q) : Ok (bnd (ld .bool (Addr.add ⟨b, 0, none⟩ 1)) f) w Q := by
  refine ok_bnd.2 (ok_ldA (C.get hi).1 ?_ hq)
  unfold rdv
  rw [if_pos (by show 0 + 1 + 1 ≤ 2; omega)]
  rfl
theorem ok_chN1 (C : Cx S w0 w L) (i : Nat) {b : Nat} {n : Bool} {s : Sl} (hi : L[i]? = some (.cells b [.slice s.a s.len s.cap, .bool n])) {f : Unit → Go.Sh.M α} (hq : Ok (f ()) w Q) : Ok (bnd (chk (.agg (.pair .sl .bool)) ⟨b, 0, none⟩ (s, n)) f) w Q := ok_chkL0 C i hi rfl hq
theorem ok_chN2 (C : Cx S w0 w L) (i : Nat) {b : Nat} {n : Bool} {a : Option Addr} {l c : Nat} (hi : L[i]? = some (.cells b [.slice a l c, .bool n])) {f : Unit → Go.Sh.M α} (hq : Ok (f ()) w Q) : Ok (bnd (chk (.agg (.pair .sl .bool)) ⟨b, 0, none⟩ (⟨a, l, c⟩, n)) f) w Q := ok_chkL0 C i hi rfl hq
theorem ok_chN4 (C : Cx S w0 w L) (i : Nat) {b : Nat} {n : Bool} {v : Value} (hi : L[i]? = some (.cells b [v, .bool n])) {f : Unit → Go.Sh.M α} (hq : Ok (f ()) w Q) : Ok (bnd (chk .bool (Addr.add ⟨b, 0, none⟩ 1) n) f) w Q := by
  refine ok_bnd.2 (ok_chkA (C.get hi).1 ?_ hq)
  unfold rdv
  rw [if_pos (by show 0 + 1 + 1 ≤ 2; omega)]
  rfl
theorem ok_wrN1 (C : Cx S w0 w L) (i : Nat) {b : Nat} {n n' : Bool} {v : Value} {s' : Sl} (hi : L[i]? = some (.cells b [v, .bool n])) {f : Unit → Go.Sh.M α} (hq : ∀ w', Cx S w0 w' (L.set i (.cells b [.slice s'.a s'.len s'.cap, .bool n'])) → Ok (f ()) w' Q) : Ok (bnd (wrs ⟨b, 0, none⟩ 0 [.slice s'.a s'.len s'.cap, .bool n']) f) w Q := ok_wrC0 C i hi rfl rfl hq
theorem ok_wrN2 (C : Cx S w0 w L) (i : Nat) {b : Nat} {n : Bool} {v : Value} {s' : Sl} (hi : L[i]? = some (.cells b [v, .bool n])) {f : Unit → Go.Sh.M α} (hq : ∀ w', Cx S w0 w' (L.set i (.cells b [.slice s'.a s'.len s'.cap, .bool n])) → Ok (f ()) w' Q) : Ok (bnd (wrs (Addr.add ⟨b, 0, none⟩ 0) 0 [.slice s'.a s'.len s'.cap]) f) w Q :=
  ok_wrC C i _ hi (by simp) rfl rfl hq
theorem ok_wrN3 (C : Cx S w0 w L) (i : Nat) {b : Nat} {n n' : Bool} {v : Value} (hi : L[i]? = some (.cells b [v, .bool n])) {f : Unit → Go.Sh.M α} (hq : ∀ w', Cx S w0 w' (L.set i (.cells b [v, .bool n'])) → Ok (f ()) w' Q) : Ok (bnd (wrs (Addr.add ⟨b, 0, none⟩ 1) 0 [.bool n']) f) w Q :=
  ok_wrC C i _ hi (by simp) rfl rfl hq
end Go.Sh
namespace Go.Sh
variable {w : World} {α β γ : Type} {Q : γ → World → Prop}
theorem ok_assoc {m : M α} {f : α → M β} {g : β → M γ} (h : Ok (bnd m fun x => bnd (f x) g) w Q) : Ok (bnd (bnd m f) g) w Q :=
  ok_bnd.2 (ok_bnd.2 (ok_mono (ok_bnd.1 h) fun _ _ h => ok_bnd.1 h))
theorem ok_retB {x : α} {f : α → M γ} (h : Ok (f x) w Q) : Ok (bnd (ret x) f) w Q := ok_bnd.2 (ok_ret.2 h)
theorem ok_tB {b : Bool} {m n : M α} {f : α → M γ} (hb : b = true) (h : Ok (bnd m f) w Q) : Ok (bnd (cnd b m n) f) w Q := by subst hb; exact h
theorem ok_fB {b : Bool} {m n : M α} {f : α → M γ} (hb : b = false) (h : Ok (bnd n f) w Q) : Ok (bnd (cnd b m n) f) w Q := by subst hb; exact h
end Go.Sh
/-! To ask what stands ahead (with little unfolding), so that no other lemma is tried at length. -/
namespace Go.Sh
variable {w : World} {α β γ : Type} {Q : γ → World → Prop}
theorem ah_newC {T : TypeId} {vs : List Value} {f : Addr → M γ} (h : Ok (bnd (newC T vs) f) w Q) : Ok (bnd (newC T vs) f) w Q := h
theorem ah_ord {F : FuncId} {n : Nat} {ops : Array Oper} {f : List Nat → M γ} (h : Ok (bnd (ordM F n ops) f) w Q) : Ok (bnd (ordM F n ops) f) w Q := h
theorem ah_draw {f : Unit → M γ} (h : Ok (bnd drawM f) w Q) : Ok (bnd drawM f) w Q := h
theorem ah_ldA {a : Addr} {f : Bool × ByteArray → M γ} (h : Ok (bnd (ld (.agg (.pair .bool .str)) a) f) w Q) : Ok (bnd (ld (.agg (.pair .bool .str)) a) f) w Q := h
theorem ah_ldA3 {a : Addr} {f : Bool → M γ} (h : Ok (bnd (ld .bool (Addr.add a 0)) f) w Q) : Ok (bnd (ld .bool (Addr.add a 0)) f) w Q := h
theorem ah_ldA4 {a : Addr} {f : ByteArray → M γ} (h : Ok (bnd (ld .str (Addr.add a 1)) f) w Q) : Ok (bnd (ld .str (Addr.add a 1)) f) w Q := h
theorem ah_ldN {a : Addr} {f : Sl × Bool → M γ} (h : Ok (bnd (ld (.agg (.pair .sl .bool)) a) f) w Q) : Ok (bnd (ld (.agg (.pair .sl .bool)) a) f) w Q := h
theorem ah_ldN3 {a : Addr} {f : Sl → M γ} (h : Ok (bnd (ld .sl (Addr.add a 0)) f) w Q) : Ok (bnd (ld .sl (Addr.add a 0)) f) w Q := h
theorem ah_ldN4 {a : Addr} {f : Bool → M γ} (h : Ok (bnd (ld .bool (Addr.add a 1)) f) w Q) : Ok (bnd (ld .bool (Addr.add a 1)) f) w Q := h
theorem ah_chA {a : Addr} {x : Bool × ByteArray} {f : Unit → M γ} (h : Ok (bnd (chk (.agg (.pair .bool .str)) a x) f) w Q) : Ok (bnd (chk (.agg (.pair .bool .str)) a x) f) w Q := h
theorem ah_chA3 {a : Addr} {x : Bool} {f : Unit → M γ} (h : Ok (bnd (chk .bool (Addr.add a 0) x) f) w Q) : Ok (bnd (chk .bool (Addr.add a 0) x) f) w Q := h
theorem ah_chN {a : Addr} {x : Sl × Bool} {f : Unit → M γ} (h : Ok (bnd (chk (.agg (.pair .sl .bool)) a x) f) w Q) : Ok (bnd (chk (.agg (.pair .sl .bool)) a x) f) w Q := h
theorem ah_chN4 {a : Addr} {x : Bool} {f : Unit → M γ} (h : Ok (bnd (chk .bool (Addr.add a 1) x) f) w Q) : Ok (bnd (chk .bool (Addr.add a 1) x) f) w Q := h
theorem ah_wrA {a : Addr} {x : Bool} {d : ByteArray} {f : Unit → M γ} (h : Ok (bnd (wrs a 0 [.bool x, .string d]) f) w Q) : Ok (bnd (wrs a 0 [.bool x, .string d]) f) w Q := h
theorem ah_wrN {a : Addr} {x : Bool} {p : Option Addr} {l c : Nat} {f : Unit → M γ} (h : Ok (bnd (wrs a 0 [.slice p l c, .bool x]) f) w Q) : Ok (bnd (wrs a 0 [.slice p l c, .bool x]) f) w Q := h
theorem ah_wrN2 {a : Addr} {p : Option Addr} {l c : Nat} {f : Unit → M γ} (h : Ok (bnd (wrs a 0 [.slice p l c]) f) w Q) : Ok (bnd (wrs a 0 [.slice p l c]) f) w Q := h
theorem ah_wrN3 {a : Addr} {x : Bool} {f : Unit → M γ} (h : Ok (bnd (wrs (Addr.add a 1) 0 [.bool x]) f) w Q) : Ok (bnd (wrs (Addr.add a 1) 0 [.bool x]) f) w Q := h
end Go.Sh
namespace Go.Sh
/-- A loop, by what holds ahead of each round and a number that falls. -/
theorem ok_loopN {σ ρ : Type} {body : σ → M (σ ⊕ ρ)} {Q : ρ → World → Prop} (I : Nat → σ → World → Prop)
    (step : ∀ n s w, I n s w → Ok (body s) w fun r w' => match r with | .inl s' => ∃ n', n' < n ∧ I n' s' w' | .inr x => Q x w') : ∀ (n : Nat) (s : σ) (w : World), I n s w → Ok (loopM body s) w Q := by
  intro n
  induction n using Nat.strongRecOn with
  | _ n ih =>
    intro s w hI
    rw [loopM_eq, ok_bnd]
    refine ok_mono (step n s w hI) fun r w' h => ?_
    cases r with
    | inl s' => obtain ⟨n', h1, h2⟩ := h; exact ih n' h1 s' w' h2
    | inr x => rw [ok_ret]; exact h
end Go.Sh
namespace Go.Sh
theorem bnd_as {α β γ : Type} (m : M α) (f : α → M β) (g : β → M γ) : bnd (bnd m f) g = bnd m fun x => bnd (f x) g := by
  funext w
  unfold bnd
  cases m w with
  | none => rfl
  | some p => rfl
/-- A number of a slice, deeper in. -/
theorem ok_get2 {α β : Type} {B : Nat} {w : World} {s : Sl} {k : IntKind} {l : List Int} {i : Int} {n : Int} {K : Int → M β} {g : β → M α} {Q : α → World → Prop} (H : Arr B w s (l.map (.int k))) (h0 : 0 ≤ i) (hl : l[i.toNat]? = some n)
    (hq : Ok (bnd (K n) g) w Q) : Ok (bnd (ix 1 s i) fun p => bnd (bnd (ld (.int k) p) K) g) w Q := by
  simp only [bnd_as]
  exact ok_get (K := fun v => bnd (K v) g) H h0 hl hq
end Go.Sh
/-! The same, the place found among what is held. -/
namespace Go.Sh
open Go.RowKit
variable {S : Nat → Prop} {w0 w : World} {L : List It} {α : Type} {Q : α → World → Prop}
theorem ix0 {x : It} (h : L[0]? = some x) : L[0]? = some x := h
theorem ix1 {x : It} (h : L[1]? = some x) : L[1]? = some x := h
theorem ix2 {x : It} (h : L[2]? = some x) : L[2]? = some x := h
theorem ix3 {x : It} (h : L[3]? = some x) : L[3]? = some x := h
theorem ix4 {x : It} (h : L[4]? = some x) : L[4]? = some x := h
theorem ix5 {x : It} (h : L[5]? = some x) : L[5]? = some x := h
theorem ix6 {x : It} (h : L[6]? = some x) : L[6]? = some x := h
theorem ix7 {x : It} (h : L[7]? = some x) : L[7]? = some x := h
theorem ix8 {x : It} (h : L[8]? = some x) : L[8]? = some x := h
theorem ix9 {x : It} (h : L[9]? = some x) : L[9]? = some x := h
theorem ix10 {x : It} (h : L[10]? = some x) : L[10]? = some x := h
theorem ix11 {x : It} (h : L[11]? = some x) : L[11]? = some x := h
theorem ix12 {x : It} (h : L[12]? = some x) : L[12]? = some x := h
theorem ix13 {x : It} (h : L[13]? = some x) : L[13]? = some x := h
theorem ix14 {x : It} (h : L[14]? = some x) : L[14]? = some x := h
theorem ix15 {x : It} (h : L[15]? = some x) : L[15]? = some x := h
theorem w_ldA1 (C : Cx S w0 w L) {i : Nat} {b : Nat} {x : Bool × ByteArray} {f : Bool × ByteArray → Go.Sh.M α} (hq : Ok (f x) w Q) (hi : L[i]? = some (.cells b [.bool x.1, .string x.2]) := by first | exact Go.Sh.ix0 rfl | exact Go.Sh.ix1 rfl | exact Go.Sh.ix2 rfl | exact Go.Sh.ix3 rfl | exact Go.Sh.ix4 rfl | exact Go.Sh.ix5 rfl | exact Go.Sh.ix6 rfl | exact Go.Sh.ix7 rfl | exact Go.Sh.ix8 rfl | exact Go.Sh.ix9 rfl | exact Go.Sh.ix10 rfl | exact Go.Sh.ix11 rfl | exact Go.Sh.ix12 rfl | exact Go.Sh.ix13 rfl | exact Go.Sh.ix14 rfl | exact Go.Sh.ix15 rfl) : Ok (bnd (ld (.agg (.pair .bool .str)) ⟨b, 0, none⟩) f) w Q := ok_ldA1 C i hi hq
theorem w_ldA2 (C : Cx S w0 w L) {i : Nat} {b : Nat} {n : Bool} {d : ByteArray} {f : Bool × ByteArray → Go.Sh.M α} (hq : Ok (f (n, d)) w Q) (hi : L[i]? = some (.cells b [.bool n, .string d]) := by first | exact Go.Sh.ix0 rfl | exact Go.Sh.ix1 rfl | exact Go.Sh.ix2 rfl | exact Go.Sh.ix3 rfl | exact Go.Sh.ix4 rfl | exact Go.Sh.ix5 rfl | exact Go.Sh.ix6 rfl | exact Go.Sh.ix7 rfl | exact Go.Sh.ix8 rfl | exact Go.Sh.ix9 rfl | exact Go.Sh.ix10 rfl | exact Go.Sh.ix11 rfl | exact Go.Sh.ix12 rfl | exact Go.Sh.ix13 rfl | exact Go.Sh.ix14 rfl | exact Go.Sh.ix15 rfl) : Ok (bnd (ld (.agg (.pair .bool .str)) ⟨b, 0, none⟩) f) w Q := ok_ldA2 C i hi hq
theorem w_ldA3 (C : Cx S w0 w L) {i : Nat} {b : Nat} {n : Bool} {d : ByteArray} {f : Bool → Go.Sh.M α} (hq : Ok (f n) w Q) (hi : L[i]? = some (.cells b [.bool n, .string d]) := by first | exact Go.Sh.ix0 rfl | exact Go.Sh.ix1 rfl | exact Go.Sh.ix2 rfl | exact Go.Sh.ix3 rfl | exact Go.Sh.ix4 rfl | exact Go.Sh.ix5 rfl | exact Go.Sh.ix6 rfl | exact Go.Sh.ix7 rfl | exact Go.Sh.ix8 rfl | exact Go.Sh.ix9 rfl | exact Go.Sh.ix10 rfl | exact Go.Sh.ix11 rfl | exact Go.Sh.ix12 rfl | exact Go.Sh.ix13 rfl | exact Go.Sh.ix14 rfl | exact Go.Sh.ix15 rfl) : Ok (bnd (ld .bool (Addr.add ⟨b, 0, none⟩ 0)) f) w Q := ok_ldA3 C i hi hq
theorem w_ldA4 (C : Cx S w0 w L) {i : Nat} {b : Nat} {n : Bool} {d : ByteArray} {f : ByteArray → Go.Sh.M α} (hq : Ok (f d) w Q) (hi : L[i]? = some (.cells b [.bool n, .string d]) := by first | exact Go.Sh.ix0 rfl | exact Go.Sh.ix1 rfl | exact Go.Sh.ix2 rfl | exact Go.Sh.ix3 rfl | exact Go.Sh.ix4 rfl | exact Go.Sh.ix5 rfl | exact Go.Sh.ix6 rfl | exact Go.Sh.ix7 rfl | exact Go.Sh.ix8 rfl | exact Go.Sh.ix9 rfl | exact Go.Sh.ix10 rfl | exact Go.Sh.ix11 rfl | exact Go.Sh.ix12 rfl | exact Go.Sh.ix13 rfl | exact Go.Sh.ix14 rfl | exact Go.Sh.ix15 rfl) : Ok (bnd (ld .str (Addr.add ⟨b, 0, none⟩ 1)) f) w Q := ok_ldA4 C i hi hq
theorem w_chA1 (C : Cx S w0 w L) {i : Nat} {b : Nat} {x : Bool × ByteArray} {f : Unit → Go.Sh.M α} (hq : Ok (f ()) w Q) (hi : L[i]? = some (.cells b [.bool x.1, .string x.2]) := by first | exact Go.Sh.ix0 rfl | exact Go.Sh.ix1 rfl | exact Go.Sh.ix2 rfl | exact Go.Sh.ix3 rfl | exact Go.Sh.ix4 rfl | exact Go.Sh.ix5 rfl | exact Go.Sh.ix6 rfl | exact Go.Sh.ix7 rfl | exact Go.Sh.ix8 rfl | exact Go.Sh.ix9 rfl | exact Go.Sh.ix10 rfl | exact Go.Sh.ix11 rfl | exact Go.Sh.ix12 rfl | exact Go.Sh.ix13 rfl | exact Go.Sh.ix14 rfl | exact Go.Sh.ix15 rfl) : Ok (bnd (chk (.agg (.pair .bool .str)) ⟨b, 0, none⟩ x) f) w Q := ok_chA1 C i hi hq
theorem w_chA2 (C : Cx S w0 w L) {i : Nat} {b : Nat} {n : Bool} {d : ByteArray} {f : Unit → Go.Sh.M α} (hq : Ok (f ()) w Q) (hi : L[i]? = some (.cells b [.bool n, .string d]) := by first | exact Go.Sh.ix0 rfl | exact Go.Sh.ix1 rfl | exact Go.Sh.ix2 rfl | exact Go.Sh.ix3 rfl | exact Go.Sh.ix4 rfl | exact Go.Sh.ix5 rfl | exact Go.Sh.ix6 rfl | exact Go.Sh.ix7 rfl | exact Go.Sh.ix8 rfl | exact Go.Sh.ix9 rfl | exact Go.Sh.ix10 rfl | exact Go.Sh.ix11 rfl | exact Go.Sh.ix12 rfl | exact Go.Sh.ix13 rfl | exact Go.Sh.ix14 rfl | exact Go.Sh.ix15 rfl) : Ok (bnd (chk (.agg (.pair .bool .str)) ⟨b, 0, none⟩ (n, d)) f) w Q := ok_chA2 C i hi hq
theorem w_chA3 (C : Cx S w0 w L) {i : Nat} {b : Nat} {n : Bool} {d : ByteArray} {f : Unit → Go.Sh.M α} (hq : Ok (f ()) w Q) (hi : L[i]? = some (.cells b [.bool n, .string d]) := by first | exact Go.Sh.ix0 rfl | exact Go.Sh.ix1 rfl | exact Go.Sh.ix2 rfl | exact Go.Sh.ix3 rfl | exact Go.Sh.ix4 rfl | exact Go.Sh.ix5 rfl | exact Go.Sh.ix6 rfl | exact Go.Sh.ix7 rfl | exact Go.Sh.ix8 rfl | exact Go.Sh.ix9 rfl | exact Go.Sh.ix10 rfl | exact Go.Sh.ix11 rfl | exact Go.Sh.ix12 rfl | exact Go.Sh.ix13 rfl | exact Go.Sh.ix14 rfl | exact Go.Sh.ix15 rfl) : Ok (bnd (chk .bool (Addr.add ⟨b, 0, none⟩ 0) n) f) w Q := ok_chA3 C i hi hq
theorem w_wrA1 (C : Cx S w0 w L) {i : Nat} {b : Nat} {n n' : Bool} {d d' : ByteArray} {f : Unit → Go.Sh.M α} (hq : ∀ w', Cx S w0 w' (L.set i (.cells b [.bool n', .string d'])) → Ok (f ()) w' Q) (hi : L[i]? = some (.cells b [.bool n, .string d]) := by first | exact Go.Sh.ix0 rfl | exact Go.Sh.ix1 rfl | exact Go.Sh.ix2 rfl | exact Go.Sh.ix3 rfl | exact Go.Sh.ix4 rfl | exact Go.Sh.ix5 rfl | exact Go.Sh.ix6 rfl | exact Go.Sh.ix7 rfl | exact Go.Sh.ix8 rfl | exact Go.Sh.ix9 rfl | exact Go.Sh.ix10 rfl | exact Go.Sh.ix11 rfl | exact Go.Sh.ix12 rfl | exact Go.Sh.ix13 rfl | exact Go.Sh.ix14 rfl | exact Go.Sh.ix15 rfl) : Ok (bnd (wrs ⟨b, 0, none⟩ 0 [.bool n', .string d']) f) w Q := ok_wrA1 C i hi hq
theorem w_ldN1 (C : Cx S w0 w L) {i : Nat} {b : Nat} {s : Sl} {n : Bool} {f : Sl × Bool → Go.Sh.M α} (hq : Ok (f (s, n)) w Q) (hi : L[i]? = some (.cells b [.slice s.a s.len s.cap, .bool n]) := by first | exact Go.Sh.ix0 rfl | exact Go.Sh.ix1 rfl | exact Go.Sh.ix2 rfl | exact Go.Sh.ix3 rfl | exact Go.Sh.ix4 rfl | exact Go.Sh.ix5 rfl | exact Go.Sh.ix6 rfl | exact Go.Sh.ix7 rfl | exact Go.Sh.ix8 rfl | exact Go.Sh.ix9 rfl | exact Go.Sh.ix10 rfl | exact Go.Sh.ix11 rfl | exact Go.Sh.ix12 rfl | exact Go.Sh.ix13 rfl | exact Go.Sh.ix14 rfl | exact Go.Sh.ix15 rfl) : Ok (bnd (ld (.agg (.pair .sl .bool)) ⟨b, 0, none⟩) f) w Q := ok_ldN1 C i hi hq
theorem w_ldN2 (C : Cx S w0 w L) {i : Nat} {b : Nat} {n : Bool} {a : Option Addr} {l c : Nat} {f : Sl × Bool → Go.Sh.M α} (hq : Ok (f (⟨a, l, c⟩, n)) w Q) (hi : L[i]? = some (.cells b [.slice a l c, .bool n]) := by first | exact Go.Sh.ix0 rfl | exact Go.Sh.ix1 rfl | exact Go.Sh.ix2 rfl | exact Go.Sh.ix3 rfl | exact Go.Sh.ix4 rfl | exact Go.Sh.ix5 rfl | exact Go.Sh.ix6 rfl | exact Go.Sh.ix7 rfl | exact Go.Sh.ix8 rfl | exact Go.Sh.ix9 rfl | exact Go.Sh.ix10 rfl | exact Go.Sh.ix11 rfl | exact Go.Sh.ix12 rfl | exact Go.Sh.ix13 rfl | exact Go.Sh.ix14 rfl | exact Go.Sh.ix15 rfl) : Ok (bnd (ld (.agg (.pair .sl .bool)) ⟨b, 0, none⟩) f) w Q := ok_ldN2 C i hi hq
theorem w_ldN3 (C : Cx S w0 w L) {i : Nat} {b : Nat} {n : Bool} {s : Sl} {f : Sl → Go.Sh.M α} (hq : Ok (f s) w Q) (hi : L[i]? = some (.cells b [.slice s.a s.len s.cap, .bool n]) := by first | exact Go.Sh.ix0 rfl | exact Go.Sh.ix1 rfl | exact Go.Sh.ix2 rfl | exact Go.Sh.ix3 rfl | exact Go.Sh.ix4 rfl | exact Go.Sh.ix5 rfl | exact Go.Sh.ix6 rfl | exact Go.Sh.ix7 rfl | exact Go.Sh.ix8 rfl | exact Go.Sh.ix9 rfl | exact Go.Sh.ix10 rfl | exact Go.Sh.ix11 rfl | exact Go.Sh.ix12 rfl | exact Go.Sh.ix13 rfl | exact Go.Sh.ix14 rfl | exact Go.Sh.ix15 rfl) : Ok (bnd (ld .sl (Addr.add ⟨b, 0, none⟩ 0)) f) w Q := ok_ldN3 C i hi hq
theorem w_ldN4 (C : Cx S w0 w L) {i : Nat} {b : Nat} {n : Bool} {v : Value} {f : Bool → Go.Sh.M α} (hq : Ok (f n) w Q) (hi : L[i]? = some (.cells b [v, .bool n]) := by first | exact Go.Sh.ix0 rfl | exact Go.Sh.ix1 rfl | exact Go.Sh.ix2 rfl | exact Go.Sh.ix3 rfl | exact Go.Sh.ix4 rfl | exact Go.Sh.ix5 rfl | exact Go.Sh.ix6 rfl | exact Go.Sh.ix7 rfl | exact Go.Sh.ix8 rfl | exact Go.Sh.ix9 rfl | exact Go.Sh.ix10 rfl | exact Go.Sh.ix11 rfl | exact Go.Sh.ix12 rfl | exact Go.Sh.ix13 rfl | exact Go.Sh.ix14 rfl | exact Go.Sh.ix15 rfl) : Ok (bnd (ld .bool (Addr.add ⟨b, 0, none⟩ 1)) f) w Q := ok_ldN4 C i hi hq
theorem w_chN1 (C : Cx S w0 w L) {i : Nat} {b : Nat} {n : Bool} {s : Sl} {f : Unit → Go.Sh.M α} (hq : Ok (f ()) w Q) (hi : L[i]? = some (.cells b [.slice s.a s.len s.cap, .bool n]) := by first | exact Go.Sh.ix0 rfl | exact Go.Sh.ix1 rfl | exact Go.Sh.ix2 rfl | exact Go.Sh.ix3 rfl | exact Go.Sh.ix4 rfl | exact Go.Sh.ix5 rfl | exact Go.Sh.ix6 rfl | exact Go.Sh.ix7 rfl | exact Go.Sh.ix8 rfl | exact Go.Sh.ix9 rfl | exact Go.Sh.ix10 rfl | exact Go.Sh.ix11 rfl | exact Go.Sh.ix12 rfl | exact Go.Sh.ix13 rfl | exact Go.Sh.ix14 rfl | exact Go.Sh.ix15 rfl) : Ok (bnd (chk (.agg (.pair .sl .bool)) ⟨b, 0, none⟩ (s, n)) f) w Q := ok_chN1 C i hi hq
theorem w_chN2 (C : Cx S w0 w L) {i : Nat} {b : Nat} {n : Bool} {a : Option Addr} {l c : Nat} {f : Unit → Go.Sh.M α} (hq : Ok (f ()) w Q) (hi : L[i]? = some (.cells b [.slice a l c, .bool n]) := by first | exact Go.Sh.ix0 rfl | exact Go.Sh.ix1 rfl | exact Go.Sh.ix2 rfl | exact Go.Sh.ix3 rfl | exact Go.Sh.ix4 rfl | exact Go.Sh.ix5 rfl | exact Go.Sh.ix6 rfl | exact Go.Sh.ix7 rfl | exact Go.Sh.ix8 rfl | exact Go.Sh.ix9 rfl | exact Go.Sh.ix10 rfl | exact Go.Sh.ix11 rfl | exact Go.Sh.ix12 rfl | exact Go.Sh.ix13 rfl | exact Go.Sh.ix14 rfl | exact Go.Sh.ix15 rfl) : Ok (bnd (chk (.agg (.pair .sl .bool)) ⟨b, 0, none⟩ (⟨a, l, c⟩, n)) f) w Q := ok_chN2 C i hi hq
theorem w_chN4 (C : Cx S w0 w L) {i : Nat} {b : Nat} {n : Bool} {v : Value} {f : Unit → Go.Sh.M α} (hq : Ok (f ()) w Q) (hi : L[i]? = some (.cells b [v, .bool n]) := by first | exact Go.Sh.ix0 rfl | exact Go.Sh.ix1 rfl | exact Go.Sh.ix2 rfl | exact Go.Sh.ix3 rfl | exact Go.Sh.ix4 rfl | exact Go.Sh.ix5 rfl | exact Go.Sh.ix6 rfl | exact Go.Sh.ix7 rfl | exact Go.Sh.ix8 rfl | exact Go.Sh.ix9 rfl | exact Go.Sh.ix10 rfl | exact Go.Sh.ix11 rfl | exact Go.Sh.ix12 rfl | exact Go.Sh.ix13 rfl | exact Go.Sh.ix14 rfl | exact Go.Sh.ix15 rfl) : Ok (bnd (chk .bool (Addr.add ⟨b, 0, none⟩ 1) n) f) w Q := ok_chN4 C i hi hq
theorem w_wrN1 (C : Cx S w0 w L) {i : Nat} {b : Nat} {n n' : Bool} {v : Value} {s' : Sl} {f : Unit → Go.Sh.M α} (hq : ∀ w', Cx S w0 w' (L.set i (.cells b [.slice s'.a s'.len s'.cap, .bool n'])) → Ok (f ()) w' Q) (hi : L[i]? = some (.cells b [v, .bool n]) := by first | exact Go.Sh.ix0 rfl | exact Go.Sh.ix1 rfl | exact Go.Sh.ix2 rfl | exact Go.Sh.ix3 rfl | exact Go.Sh.ix4 rfl | exact Go.Sh.ix5 rfl | exact Go.Sh.ix6 rfl | exact Go.Sh.ix7 rfl | exact Go.Sh.ix8 rfl | exact Go.Sh.ix9 rfl | exact Go.Sh.ix10 rfl | exact Go.Sh.ix11 rfl | exact Go.Sh.ix12 rfl | exact Go.Sh.ix13 rfl | exact Go.Sh.ix14 rfl | exact Go.Sh.ix15 rfl) : Ok (bnd (wrs ⟨b, 0, none⟩ 0 [.slice s'.a s'.len s'.cap, .bool n']) f) w Q := ok_wrN1 C i hi hq
theorem w_wrN2 (C : Cx S w0 w L) {i : Nat} {b : Nat} {n : Bool} {v : Value} {s' : Sl} {f : Unit → Go.Sh.M α} (hq : ∀ w', Cx S w0 w' (L.set i (.cells b [.slice s'.a s'.len s'.cap, .bool n])) → Ok (f ()) w' Q) (hi : L[i]? = some (.cells b [v, .bool n]) := by first | exact Go.Sh.ix0 rfl | exact Go.Sh.ix1 rfl | exact Go.Sh.ix2 rfl | exact Go.Sh.ix3 rfl | exact Go.Sh.ix4 rfl | exact Go.Sh.ix5 rfl | exact Go.Sh.ix6 rfl | exact Go.Sh.ix7 rfl | exact Go.Sh.ix8 rfl | exact Go.Sh.ix9 rfl | exact Go.Sh.ix10 rfl | exact Go.Sh.ix11 rfl | exact Go.Sh.ix12 rfl | exact Go.Sh.ix13 rfl | exact Go.Sh.ix14 rfl | exact Go.Sh.ix15 rfl) : Ok (bnd (wrs (Addr.add ⟨b, 0, none⟩ 0) 0 [.slice s'.a s'.len s'.cap]) f) w Q := ok_wrN2 C i hi hq
theorem w_wrN3 (C : Cx S w0 w L) {i : Nat} {b : Nat} {n n' : Bool} {v : Value} {f : Unit → Go.Sh.M α} (hq : ∀ w', Cx S w0 w' (L.set i (.cells b [v, .bool n'])) → Ok (f ()) w' Q) (hi : L[i]? = some (.cells b [v, .bool n]) := by first | exact Go.Sh.ix0 rfl | exact Go.Sh.ix1 rfl | exact Go.Sh.ix2 rfl | exact Go.Sh.ix3 rfl | exact Go.Sh.ix4 rfl | exact Go.Sh.ix5 rfl | exact Go.Sh.ix6 rfl | exact Go.Sh.ix7 rfl | exact Go.Sh.ix8 rfl | exact Go.Sh.ix9 rfl | exact Go.Sh.ix10 rfl | exact Go.Sh.ix11 rfl | exact Go.Sh.ix12 rfl | exact Go.Sh.ix13 rfl | exact Go.Sh.ix14 rfl | exact Go.Sh.ix15 rfl) : Ok (bnd (wrs (Addr.add ⟨b, 0, none⟩ 1) 0 [.bool n']) f) w Q := ok_wrN3 C i hi hq
end Go.Sh
