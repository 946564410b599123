/-
  Parts of the proof: FL, FM, FN, FO. It states what the functions do; no further condition.
-/
import Derived.Test.YtckfidopkajpaaaFK
set_option linter.unusedVariables false
set_option linter.unusedSimpArgs false
/-
  part: frames of a page go; who is active goes on on its own.
-/
namespace Go.Proofs.Ytckfidopkajpaaa
set_option linter.unusedVariables false
open Go.Sh Go.RowKit
set_option maxRecDepth 100000
variable {w : World} {T : Hp} {sb : Nat} {S : Sk} {A : St} {G : Gh}
theorem Acv.top {e : Option Nat} (h : Acv S A G e) {p : Nat} (hp : S.top = some p) : p ∈ G.pl ∧ S.alone = none ∧ ∃ id, e = some id ∧ A.alive id = true ∧ (G.fid p).getLast? = some id := by
  unfold Acv at h
  cases e with
  | none => simp only at h; rw [h.1] at hp; cases hp
  | some id =>
    simp only at h
    obtain ⟨h1, h2⟩ := h
    rcases h2 with ⟨q, h3, h4, h5, h6⟩ | ⟨h3, _⟩
    · rw [hp, Option.some.injEq] at h3; subst h3
      exact ⟨h4, h5, id, rfl, h1, h6⟩
    · rw [h3] at hp; cases hp
theorem Acv.notop {e : Option Nat} (h : Acv S A G e) (hp : S.top = none) : (e = none ∧ S.alone = none) ∨ ∃ id c, e = some id ∧ A.alive id = true ∧ S.alone = some c ∧ G.cx id = some c ∧ G.loc id = none := by
  unfold Acv at h
  cases e with
  | none => exact .inl ⟨rfl, h.2⟩
  | some id =>
    simp only at h
    obtain ⟨h1, h2⟩ := h
    rcases h2 with ⟨q, h3, _⟩ | ⟨_, c, h4, h5, h6⟩
    · rw [hp] at h3; cases h3
    · exact .inr ⟨id, c, rfl, h1, h4, h5, h6⟩
theorem acv_top {p id : Nat} (h1 : S.top = some p) (h2 : S.alone = none) (h3 : p ∈ G.pl) (h4 : A.alive id = true) (h5 : (G.fid p).getLast? = some id) : Acv S A G (some id) := ⟨h4, .inl ⟨p, h1, h3, h2, h5⟩⟩
theorem acv_alone {c id : Nat} (h1 : S.top = none) (h2 : S.alone = some c) (h4 : A.alive id = true) (h5 : G.cx id = some c) (h6 : G.loc id = none) : Acv S A G (some id) := ⟨h4, .inr ⟨h1, c, h2, h5, h6⟩⟩
theorem slt59 : Try.prog.underlying 59 = some (.pointer 66) := by kernel_rfl
theorem inf66 : Try.prog.info? 66 = some Try.t66 := by kernel_rfl
theorem siz66 : Try.t66.size ≠ 0 := by decide
theorem fid_last {l : List Nat} {id : Nat} (h : l.getLast? = some id) : 0 < l.length ∧ l[l.length - 1]? = some id := by
  cases l with
  | nil => cases h
  | cons x l => exact ⟨by simp, by rw [List.getLast?_eq_getElem?] at h; exact h⟩
/-- Who is active stays so, when frames that are not its page's go. -/
theorem Acv.cut {e : Option Nat} (h : Acv S A G e) {p n : Nat} {cx' : Nat → Option Nat} (hx : ∀ k b, G.cx k = some b → cx' k = some b) (hn : S.top = some p → (G.fid p).length ≤ n) : Acv S A (({ G with cx := cx' } : Gh).cut p n) e := by
  cases ht : S.top with
  | some q =>
    obtain ⟨h1, h2, id, rfl, h3, h4⟩ := h.top ht
    refine acv_top ht h2 h1 h3 ?_
    by_cases e : q = p
    · subst e
      show (cutF G.fid q n q).getLast? = _
      unfold cutF
      rw [if_pos rfl, List.take_of_length_le (hn ht)]
      exact h4
    · show (cutF G.fid p n q).getLast? = _
      unfold cutF
      rw [if_neg e]; exact h4
  | none =>
    rcases h.notop ht with ⟨rfl, h1⟩ | ⟨id, c, rfl, h1, h2, h3, h4⟩
    · exact ⟨ht, h1⟩
    · exact acv_alone ht h2 h1 (hx _ _ h3) (cutL_none h4)
theorem part_specP (h : Th en w T) (I : Inv T sb S A G) {e : Option Nat} (hA : Acv S A G e) {p n : Nat} (hp : p ∈ G.pl) (hn : n ≤ (G.fid p).length) :
    Sp (f61_frames_Stack_part (pt (some sb)) (pt (some p)) (n : Int)) w T fun _ _ T' => ∃ S' cx', (∀ k b, G.cx k = some b → cx' k = some b) ∧ Inv T' sb S' A (({ G with cx := cx' } : Gh).cut p n) ∧ Acv S' A (({ G with cx := cx' } : Gh).cut p n) e ∧ S'.pages = S.pages := by
  unfold f61_frames_Stack_part
  have C := Tr.refl h
  obtain ⟨P, fl, cb, cl, hP⟩ := I.page p hp
  have hlen : P.frames.len = (G.fid p).length := hP.frames.len.trans hP.cnt
  have hmx := hP.frames.max; have hle := hP.frames.le
  have hml : maxLen = 9223372036854775807 := by decide
  refine ok_drfP ?_
  refine ok_tld C I.stk (x := pt S.top) rfl ?_
  refine ok_tpeqO C (q := S.top) slt59 inf66 siz66 hP.page (fun b hb => by
    obtain ⟨h1, _⟩ := hA.top hb
    obtain ⟨Q, hQ⟩ := I.pageOf h1
    rw [hQ]; simp) ?_
  have w0 := w
  refine ok_bnd.2 (ok_mono (Q := fun b w' => Tr en w T w' T ∧ b = decide (S.top = some p ∧ n < (G.fid p).length)) ?_ ?_)
  · by_cases ht : S.top = some p
    · refine ok_true (by simp [ht]) ?_
      refine ok_drfP ?_
      refine ok_tld C hP.page (x := P.frames) rfl ?_
      exact ok_ret.2 ⟨C, by simp [ht, hlen]⟩
    · exact ok_false (by simp [ht]) (ok_ret.2 ⟨C, by simp [ht]⟩)
  rintro _ w1 ⟨C, rfl⟩
  by_cases hb : S.top = some p ∧ n < (G.fid p).length
  · obtain ⟨hin, hal, id, rfl, halive, hlast⟩ := hA.top hb.1
    obtain ⟨hpos, hlid⟩ := fid_last hlast
    refine ok_bnd.2 (ok_mono (Q := fun s w' => ∃ T' c, Tr en w T w' T' ∧ s = pt (some c) ∧ Inv T' sb S A { G with cx := cxu G.cx id c } ∧ ∀ k b, G.cx k = some b → cxu G.cx id c k = some b) ?_ ?_)
    · refine ok_true (by simp [hb]) ?_
      refine ok_drfP ?_
      refine ok_tld C hP.page (x := P.frames) rfl ?_
      have e1 : IntKind.wrap .i64 ((P.frames.len : Int) - 1) = (((G.fid p).length - 1 : Nat) : Int) := by rw [wrapI_in (by omega)]; omega
      rw [e1]
      refine ok_tcall C (marry_spec C.th I hp hlid) ?_
      rintro r w2 T' C ⟨c, rfl, I1, e1, _⟩
      exact ok_ret.2 ⟨T', c, C, rfl, I1, e1⟩
    rintro _ w2 ⟨T1, c, C, rfl, I1, e1⟩
    refine ok_tcall C (divorce_spec C.th I1 hp hn) ?_
    rintro _ w3 T2 C ⟨cx2, e2, I2⟩
    refine ok_bnd.2 (ok_true rfl ?_)
    refine ok_drfP ?_
    refine ok_twr C (.stk { S with top := none }) I2.stk (by simp [en, Sk.en]) rfl rfl fun w4 C => ?_
    have I3 := I2.stkPut { S with top := none } ⟨rfl, rfl, rfl, rfl, rfl⟩
    refine ok_drfP ?_
    refine ok_twr C (.stk { S with top := none, alone := some c }) I3.stk (by simp [en, Sk.en]) rfl rfl fun w5 C => ?_
    have I4 := I3.stkPut { S with top := none, alone := some c } ⟨rfl, rfl, rfl, rfl, rfl⟩
    exact ok_ret.2 (ok_ret.2 ⟨_, C, _, cx2, fun k b h => e2 _ _ (e1 _ _ h), I4, acv_alone rfl rfl halive (e2 _ _ (cxu_eq _ _ _)) (cutL_gone (I.l1 p _ id hp hlid) (by omega)), rfl⟩)
  · refine ok_bnd.2 (ok_false (by simp [hb]) (ok_ret.2 ?_))
    refine ok_tcall C (divorce_spec C.th I hp hn) ?_
    rintro _ w2 T2 C ⟨cx2, e2, I2⟩
    exact ok_bnd.2 (ok_false rfl (ok_ret.2 (ok_ret.2 ⟨T2, C, S, cx2, e2, I2, hA.cut e2 (fun ht => by
      rcases Nat.lt_or_ge n (G.fid p).length with h' | h'
      · exact absurd ⟨ht, h'⟩ hb
      · exact h'), rfl⟩)))
theorem part_spec (h : Th en w T) (I : Inv T sb S A G) {e : Option Nat} (hA : Acv S A G e) {p n : Nat} (hp : p ∈ G.pl) (hn : n ≤ (G.fid p).length) :
    Sp (f61_frames_Stack_part (pt (some sb)) (pt (some p)) (n : Int)) w T fun _ _ T' => ∃ S' cx', (∀ k b, G.cx k = some b → cx' k = some b) ∧ Inv T' sb S' A (({ G with cx := cx' } : Gh).cut p n) ∧ Acv S' A (({ G with cx := cx' } : Gh).cut p n) e :=
  ok_mono (part_specP h I hA hp hn) fun _ _ ⟨T', C, S', cx', h1, h2, h3, _⟩ => ⟨T', C, S', cx', h1, h2, h3⟩
end Go.Proofs.Ytckfidopkajpaaa

/-
  free: a page without frames.
-/
namespace Go.Proofs.Ytckfidopkajpaaa
set_option linter.unusedVariables false
open Go.Sh Go.RowKit
set_option maxRecDepth 100000
variable {w : World} {T : Hp} {sb : Nat} {S : Sk} {A : St} {G : Gh}
theorem call69 (a b : Option Addr) : callV Cf68_frames_page (.int .i64) (Value.func (.func 69) #[] #[]) [⟨.ptr, a⟩, ⟨.ptr, b⟩] = bnd (f69_frames_Stack_free_1 a b) ret := by
  rfl
theorem less_spec (h : Th en w T) (I : Inv T sb S A G) {p q : Nat} (hp : p ∈ G.pl) (hq : q ∈ G.pl) : Sp (f69_frames_Stack_free_1 (pt (some p)) (pt (some q))) w T fun _ _ T' => T' = T := by
  unfold f69_frames_Stack_free_1
  simp only [cnd_ret, bnd_ret]
  have C := Tr.refl h
  obtain ⟨P, hP⟩ := I.pageOf hp
  obtain ⟨Q, hQ⟩ := I.pageOf hq
  refine ok_tdraw C fun w C => ?_
  refine ok_drfP ?_
  refine ok_tld C hP (x := P.used) rfl ?_
  refine ok_drfP ?_
  refine ok_tld C hQ (x := Q.used) rfl ?_
  refine ok_drfP ?_
  refine ok_tld C hP (x := P.frames) rfl ?_
  refine ok_drfP ?_
  refine ok_tld C hQ (x := Q.frames) rfl ?_
  exact ok_ret.2 ⟨T, C, rfl⟩
theorem rd_pages {l : List (Option Nat)} {i p : Nat} (h : l[i]? = some (some p)) : rdv .ptr (en (.pages l)).toArray (1 * i) = some (pt (some p)) := by
  have e : en (.pages l) = l.flatMap fun b => [Value.pointer (pt b)] := by
    show l.map _ = _
    rw [List.map_eq_flatMap]
  rw [e]
  exact flat_rdv (t := .ptr) (k := 0) (g := fun b => [Value.pointer (pt b)]) (fun _ => rfl) h (Nat.le_refl 1) rfl
theorem min_spec (h : Th en w T) (I : Inv T sb S A G) : Sp (f68_frames_page S.pages (Value.func (.func 69) #[] #[])) w T fun r _ T' => T' = T ∧ ∃ p ∈ G.pl, r = pt (some p) := by
  unfold f68_frames_page
  have C := Tr.refl h
  obtain ⟨h1, h2, h3, b, L, h4, h5, h6⟩ := I.pgs
  have hpos : 0 < G.pl.length := List.length_pos_iff.2 I.some_
  have gt : ∀ i p, G.pl[i]? = some p → L[i]? = some (some p) := fun i p h => take_at (fl := G.pl.map some) (by rw [List.length_map]; exact h6) (by rw [List.getElem?_map, h]; rfl)
  refine ok_bnd.2 (ok_false (by simp; omega) (ok_ret.2 ?_))
  obtain ⟨p0, hp0⟩ : ∃ p, G.pl[0]? = some p := ⟨_, List.getElem?_eq_getElem hpos⟩
  refine ok_ixN h4 (by omega) (by omega) ?_
  rw [Int.toNat_zero]
  refine ok_tld0 C h5 (x := pt (some p0)) (rd_pages (gt 0 p0 hp0)) ?_
  refine ok_loop (fun (q : Option Addr × Int) w' => Tr en w T w' T ∧ (∃ p ∈ G.pl, q.1 = pt (some p)) ∧ ∃ i : Nat, q.2 = i ∧ i ≤ G.pl.length)
    (fun q _ => ((G.pl.length : Int) - q.2).toNat) ?_ _ _ ⟨C, ⟨p0, List.mem_of_getElem? hp0, rfl⟩, 1, rfl, hpos⟩
  clear C
  rintro ⟨r, q⟩ w1 ⟨C, ⟨p, hp, rfl⟩, i, rfl, hi⟩
  simp only
  by_cases hlt : i < G.pl.length
  · refine ok_true (by simp only [decide_eq_true_eq]; omega) ?_
    obtain ⟨p1, hp1⟩ : ∃ p, G.pl[i]? = some p := ⟨_, List.getElem?_eq_getElem hlt⟩
    have hm1 := List.mem_of_getElem? hp1
    refine ok_ixN h4 (by omega) (by omega) ?_
    rw [Int.toNat_natCast]
    refine ok_tld0 C h5 (x := pt (some p1)) (rd_pages (gt i p1 hp1)) ?_
    rw [call69]
    refine ok_tcall C (P := fun _ _ T' => T' = T) ?_ ?_
    · refine ok_bnd.2 (ok_mono (less_spec C.th I hm1 hp) ?_)
      rintro r w' ⟨T', k1, rfl⟩
      exact ok_ret.2 ⟨T', k1, rfl⟩
    rintro z w2 T' C rfl
    refine ok_bnd.2 (ok_mono (Q := fun s w' => Tr en w T' w' T' ∧ ∃ p ∈ G.pl, s = pt (some p)) ?_ ?_)
    · by_cases hz : z < 0
      · refine ok_true (by simpa using hz) ?_
        refine ok_ixN h4 (by omega) (by omega) ?_
        rw [Int.toNat_natCast]
        refine ok_tld0 C h5 (x := pt (some p1)) (rd_pages (gt i p1 hp1)) ?_
        exact ok_ret.2 ⟨C, p1, hm1, rfl⟩
      · exact ok_false (by simpa using hz) (ok_ret.2 ⟨C, p, hp, rfl⟩)
    rintro s w3 ⟨C, p2, hp2, rfl⟩
    refine ok_ret.2 ⟨⟨C, ⟨p2, hp2, rfl⟩, i + 1, ?_, hlt⟩, ?_⟩
    · show IntKind.wrap .i64 ((i : Int) + 1) = _
      rw [wrapI_in (by omega)]; simp
    · show (_ - IntKind.wrap .i64 ((i : Int) + 1)).toNat < _
      rw [wrapI_in (by omega)]; omega
  · exact ok_false (by simp only [decide_eq_false_iff_not]; omega) (ok_ret.2 ⟨T, C, rfl, p, hp, rfl⟩)
/-- A page without frames; nothing else is seen. -/
theorem free_spec (h : Th en w T) (I : Inv T sb S A G) {e : Option Nat} (hA : Acv S A G e) :
    Sp (f31_frames_Stack_free (pt (some sb))) w T fun r _ T' => ∃ p S' G', p ∈ G.pl ∧ r = pt (some p) ∧ G'.pl = G.pl ∧ G'.fid p = [] ∧ (∀ k b, G.cx k = some b → G'.cx k = some b) ∧ (∀ id, G.loc id = none → G'.loc id = none) ∧ Inv T' sb S' A G' ∧ Acv S' A G' e := by
  unfold f31_frames_Stack_free
  have C := Tr.refl h
  refine ok_drfP ?_
  refine ok_tld C I.stk (x := S.pages) rfl ?_
  refine ok_tcall C (min_spec C.th I) ?_
  rintro r w1 T' C ⟨rfl, p, hp, rfl⟩
  refine ok_tcall C (part_spec (n := 0) C.th I hA hp (Nat.zero_le _)) ?_
  rintro _ w2 T2 C ⟨S', cx', h1, h2, h3⟩
  refine ok_ret.2 ⟨T2, C, p, S', (({ G with cx := cx' } : Gh).cut p 0), hp, rfl, rfl, ?_, h1, fun id hl => cutL_none hl, h2, h3⟩
  show cutF G.fid p 0 p = []
  unfold cutF
  rw [if_pos rfl]; rfl
end Go.Proofs.Ytckfidopkajpaaa

/-
  A frame laid behind a page's frames.
-/
namespace Go.Proofs.Ytckfidopkajpaaa
set_option linter.unusedVariables false
open Go.Sh Go.RowKit
set_option maxRecDepth 100000
variable {w : World} {T : Hp} {sb : Nat} {S : Sk} {A : St} {G : Gh}
theorem und64 : Try.prog.underlying 64 = some (.slice 75) := by kernel_rfl
theorem inf75 : Try.prog.info? 75 = some Try.t75 := by kernel_rfl
def fr0 : Fr := ⟨0, 0, 0, 0, 0, none⟩
theorem zero75 : Try.t75.zero = some (.agg fr0.en.toArray) := rfl
theorem fr_one (F : Fr) : ∀ u ∈ F.en, u.oneCell' = true := by
  intro u hu
  simp only [Fr.en, List.mem_cons, List.not_mem_nil, or_false] at hu
  rcases hu with rfl | rfl | rfl | rfl | rfl | rfl <;> rfl
theorem zeros_fr (n : Nat) : Builtin.zeroCells fr0.en.toArray n = ((List.replicate n fr0).flatMap Fr.en).toArray := by
  have hs : fr0.en.toArray.size = 6 := rfl
  unfold Builtin.zeroCells
  rw [hs]
  apply Array.ext_getElem?
  intro i
  have hlen : ((List.replicate n fr0).flatMap Fr.en).length = 6 * n := by rw [flat_length fr_len, List.length_replicate]
  by_cases h : i < n * 6
  · rw [Array.getElem?_map, Array.getElem?_range, if_pos h]
    rw [List.getElem?_toArray]
    have hd : i = 6 * (i / 6) + i % 6 := by omega
    have h6 : i % 6 < 6 := Nat.mod_lt _ (by decide)
    conv => rhs; rw [hd]
    rw [flat_get fr_len (a := fr0) (by rw [List.getElem?_replicate, if_pos (by omega)]) h6]
    simp only [Option.map_some]
    generalize i % 6 = k at *
    have : k = 0 ∨ k = 1 ∨ k = 2 ∨ k = 3 ∨ k = 4 ∨ k = 5 := by omega
    rcases this with rfl | rfl | rfl | rfl | rfl | rfl <;> rfl
  · rw [Array.getElem?_eq_none (by simp; omega), Array.getElem?_eq_none (by simp only [List.size_toArray]; rw [hlen]; omega)]
theorem cells_agg (c : Array Value) : (Value.agg c).cells = c := rfl
theorem ok_buildF {F : Fr} {Q : Sl → World → Prop} (hq : Q ⟨some ⟨w.heap.size, 0, none⟩, 1, 1⟩ (w.alloc (.cells F.en.toArray 75))) : Ok (runV Try.prog .sl (Instr.buildSlice 64 1 #[(0, .agg F.en.toArray)])) w Q := by
  refine ok_runV (v := .slice (some ⟨w.heap.size, 0, none⟩) 1 1) (w' := w.alloc (.cells F.en.toArray 75)) ?_ rfl hq
  simp [Instr.buildSlice, run_underlying und64, sizeOf, typeInfo, zeroValue, inf75, zero75, Instr.fill, newRow, show Try.t75.size = 6 from rfl, Fr.en, cells_agg]
  rw [show (Array.range 6) = #[0, 1, 2, 3, 4, 5] from by decide]
  simp
theorem flat_one {l : List Fr} : ∀ u ∈ l.flatMap Fr.en, u.oneCell' = true := by
  intro u hu
  obtain ⟨F, _, h⟩ := List.mem_flatMap.1 hu
  exact fr_one F u h
theorem ok_appF {α : Type} {w0 : World} {T0 : Hp} (C : Tr en w0 T0 w T) {p bw : Nat} {s : Sl} {fl : List Fr} {F : Fr} (hf : Fs T p s fl) (hbw : blk w bw = some F.en.toArray) (hsm : fl.length ≤ 100000) {f : Sl → M α} {Q : α → World → Prop}
    (hq : ∀ r w' T', Tr en w0 T0 w' T' → Fs T' p r (fl ++ [F]) → (∀ b o, T b = some o → (∀ L, o ≠ .frs p L) → T' b = some o) → Ok (f r) w' Q) :
    Ok (bnd (runV Try.prog .sl (Builtin.append_ #[64, 64] 64 #[.slice s.a s.len s.cap, .slice (some ⟨bw, 0, none⟩) 1 1])) f) w Q := by
  have hml : maxLen = 9223372036854775807 := by decide
  have h6 : Try.t75.size = 6 := rfl
  have hlen := hf.len; have hle := hf.le; have hmx := hf.max
  have K : Src Try.prog Try.t75.size 64 (.slice (some ⟨bw, 0, none⟩) 1 1) 1 F.en w := Src.ofSlice w und64 ⟨bw, 0, none⟩ 1 1 F.en rfl (fun j u hj => by
    rw [addr_add, cell_blk hbw, Nat.zero_add, List.getElem?_toArray, hj]) (fr_one F)
  by_cases hroom : s.len + 1 ≤ s.cap
  · rcases hf.at_ with ⟨h1, h2⟩ | ⟨fb, L, ha, hb, hL, ht⟩
    · omega
    have hB := C.th fb _ hb
    have hsz : (en (.frs p L)).length = 6 * L.length := flat_length fr_len L
    have hr := run_append_room_src w 64 64 64 75 Try.t75 und64 inf75 fb 0 s.len s.cap _ 1 F.en K hroom
      (fun j hj => by
        rw [cell_blk hB.1, List.getElem?_toArray, List.getElem?_eq_getElem (by have : F.en.length = 6 := rfl; rw [hsz, h6]; omega)]; rfl)
      (fun j hj => frozen_blk hB.1 (cln_fre hB.2) (by have : F.en.length = 6 := rfl; simp only [List.size_toArray]; rw [hsz, h6]; omega))
    rw [setCells_setBlk _ _ _ _ hB.1] at hr
    obtain ⟨F0, hF0⟩ : ∃ F0, L[s.len]? = some F0 := ⟨_, List.getElem?_eq_getElem (by omega)⟩
    have e1 : splice (en (.frs p L)).toArray (0 + s.len * Try.t75.size) F.en = (en (.frs p (L.set s.len F))).toArray := by
      rw [show 0 + s.len * Try.t75.size = 6 * s.len + 0 by rw [h6]; omega, splice_spl _ _ _ (by have : F.en.length = 6 := rfl; rw [hsz]; omega)]
      rw [wr_fr (k := 0) (vs := F.en) (f' := F) hF0 (Nat.le_refl 6) rfl]
    rw [e1] at hr
    rw [ha]
    refine ok_bnd.2 (ok_runV hr (x := (⟨some ⟨fb, 0, none⟩, s.len + 1, s.cap⟩ : Sl)) rfl ?_)
    have C2 := C.set hb (.frs p (L.set s.len F)) (by rw [hsz]; show (List.flatMap Fr.en _).length = _; rw [flat_length fr_len, List.length_set])
    refine hq _ _ _ C2 ⟨by simp [hlen], hroom, hmx, .inr ⟨fb, _, rfl, put_eq _ _ _, by rw [List.length_set]; exact hL, ?_⟩⟩ fun b o h hne => put_other h hb (hne L)
    rw [List.length_append, List.length_singleton, List.take_add_one, List.getElem?_set, if_pos hlen, if_pos (by omega), List.take_set, ht, hlen, List.set_eq_of_length_le (Nat.le_refl _)]
    rfl
  · have hs : Src Try.prog Try.t75.size 64 (.slice s.a s.len s.cap) s.len (fl.flatMap Fr.en) w := by
      rcases hf.at_ with ⟨h1, h2⟩ | ⟨fb, L, ha, hb, hL, ht⟩
      · have h3 : fl = [] := List.eq_nil_of_length_eq_zero (by omega)
        have h4 : s.len = 0 := by omega
        subst h3
        rw [h1, h4]
        exact Src.ofNil w und64 s.cap
      · rw [ha]
        refine Src.ofSlice w und64 ⟨fb, 0, none⟩ s.len s.cap _ (by rw [flat_length fr_len, h6]; omega) (fun j u hj => ?_) flat_one
        rw [addr_add, cell_blk (C.th fb _ hb).1, Nat.zero_add, List.getElem?_toArray]
        have hlf : (fl.flatMap Fr.en).length = 6 * fl.length := flat_length fr_len fl
        have hjl : j < 6 * fl.length := by
          rcases Nat.lt_or_ge j (6 * fl.length) with h | h
          · exact h
          · rw [List.getElem?_eq_none (by omega)] at hj; cases hj
        have hd : j = 6 * (j / 6) + j % 6 := by omega
        have hm : j % 6 < 6 := Nat.mod_lt _ (by decide)
        obtain ⟨F1, hF1⟩ : ∃ F1, fl[j / 6]? = some F1 := ⟨_, List.getElem?_eq_getElem (by omega)⟩
        show (L.flatMap Fr.en)[j]? = _
        rw [← hj, hd, flat_get fr_len (take_at ht hF1) hm, flat_get fr_len hF1 hm]
    have hr := run_append_grow_src w 64 64 64 75 Try.t75 (.agg fr0.en.toArray) und64 inf75 zero75 s.a s.len s.cap _ hs.cellsD _ 1 F.en K (by omega) (by omega) (growslice_fits (by omega) (by have : Try.t75.bytes = 48 := rfl; rw [this]; omega))
    have hc := grownCap_ge w (s.len + 1) s.cap 75
    have hc2 := grownCap_le_maxLen w (s.len + 1) s.cap 75 (by omega)
    have e1 : ((fl.flatMap Fr.en ++ F.en).toArray ++ Builtin.zeroCells (Value.agg fr0.en.toArray).cells (grownCap w (s.len + 1) s.cap 75 - (s.len + 1))) = (en (.frs p (fl ++ [F] ++ List.replicate (grownCap w (s.len + 1) s.cap 75 - (s.len + 1)) fr0))).toArray := by
      rw [cells_agg, zeros_fr]
      simp [en]
    rw [e1] at hr
    have C2 := C.drew.alloc (.frs p (fl ++ [F] ++ List.replicate (grownCap w (s.len + 1) s.cap 75 - (s.len + 1)) fr0)) 75
    refine ok_bnd.2 (ok_runV hr (x := (⟨some ⟨w.heap.size, 0, none⟩, s.len + 1, grownCap w (s.len + 1) s.cap 75⟩ : Sl)) rfl ?_)
    refine hq _ _ _ C2 ⟨by simp [hlen], hc, hc2, .inr ⟨w.heap.size, _, rfl, put_eq _ _ _, ?_, ?_⟩⟩ fun b o h _ => put_new h C.drew.none_at
    · simp only [List.length_append, List.length_singleton, List.length_replicate]; show _ = grownCap w (s.len + 1) s.cap 75; omega
    · rw [List.take_append_of_le_length (Nat.le_refl _), List.take_length]
end Go.Proofs.Ytckfidopkajpaaa

/-
  lay: a frame laid on top of a page.
-/
namespace Go.Proofs.Ytckfidopkajpaaa
set_option linter.unusedVariables false
open Go.Sh Go.RowKit
set_option maxRecDepth 100000
variable {w : World} {T : Hp} {sb : Nat} {S : Sk} {A : St} {G : Gh}
def over (cl : List Int) (off : Nat) (l : List Int) : List Int := cl.take off ++ l ++ cl.drop (off + l.length)
theorem over_length {cl l : List Int} {off : Nat} (h : off + l.length ≤ cl.length) : (over cl off l).length = cl.length := by
  unfold over; simp; omega
theorem over_take {cl l : List Int} {off n : Nat} (h : off + l.length ≤ cl.length) (hn : n ≤ off) : (over cl off l).take n = cl.take n := by
  unfold over
  rw [List.append_assoc, List.take_append_of_le_length (by rw [List.length_take]; omega), List.take_take, Nat.min_eq_left hn]
theorem over_at {cl l : List Int} {off : Nat} (h : off + l.length ≤ cl.length) : ((over cl off l).drop off).take l.length = l := by
  unfold over
  rw [List.append_assoc, List.drop_append_of_le_length (by rw [List.length_take]; omega), List.drop_of_length_le (by rw [List.length_take]; omega), List.nil_append, List.take_append_of_le_length (Nat.le_refl _), List.take_length]
theorem over_out {cl l : List Int} {off a n : Nat} (h : off + l.length ≤ cl.length) (hn : a + n ≤ off) : ((over cl off l).drop a).take n = (cl.drop a).take n := by
  have e1 : ((over cl off l).drop a).take n = ((over cl off l).take (a + n)).drop a := by rw [List.drop_take, Nat.add_sub_cancel_left]
  have e2 : (cl.drop a).take n = (cl.take (a + n)).drop a := by rw [List.drop_take, Nat.add_sub_cancel_left]
  rw [e1, e2, over_take h hn]
theorem ok_tcopy {α : Type} {w0 : World} {T0 : Hp} (C : Tr en w0 T0 w T) {cb off n cap : Nat} {o : Ow} {cl : List Int} (hb : T cb = some (.ints o cl)) {a : Option Addr} {s : Sl} {l : List Int} (H : Arr w.heap.size w s (nums .i64 l)) {k : Nat} (hk : s.len = k) (hn : n = l.length) (hfit : off + l.length ≤ cl.length) (ha : l ≠ [] → a = some ⟨cb, off, none⟩)
    {f : Int → M α} {Q : α → World → Prop} (hq : ∀ w', Tr en w0 T0 w' (put T cb (.ints o (over cl off l))) → Ok (f (l.length : Int)) w' Q) :
    Ok (bnd (runV Try.prog (.int .i64) (Builtin.copy_ #[22, 22] 3 #[.slice a n cap, .slice s.a k s.cap])) f) w Q := by
  subst hk
  obtain ⟨inf, hinf, hs, hz, hby⟩ := slt22.info
  have e2 : s.len = l.length := by have := H.1; simpa using this
  by_cases h0 : l = []
  · subst h0
    have e3 : s.len = 0 := e2
    refine ok_bnd.2 (ok_runV (run_copy_none w 22 22 3 2 a s.a n cap s.len s.cap slt22.under (by rw [hinf]; simp [hs]) (by rw [e3]; exact Nat.zero_min _)) (x := 0) rfl (hq w ?_))
    have : over cl off [] = cl := by unfold over; simp
    rw [this, put_same hb]
    exact C
  · rcases H.2.2.2 with h | ⟨b', o', c', g5, g6, g7, g8⟩
    · simp [nums] at h; exact absurd h h0
    have hB := C.th cb _ hb
    have hr := run_copy_cells (P := Try.prog) w 22 22 3 2 cb off n cap ⟨b', o', none⟩ s.len s.cap (nums .i64 l) slt22.under (by rw [hinf]; simp [hs]) (by simp only [nums, List.length_map]; rw [hn, e2]; exact (Nat.min_self _).symm)
      (fun j v hj => by
        have hjl : j < (nums .i64 l).length := by
          rcases Nat.lt_or_ge j (nums .i64 l).length with h | h
          · exact h
          · rw [List.getElem?_eq_none h] at hj; cases hj
        rw [addr_add, cell_blk g7, g8 j hjl, hj])
      (fun j hj => by
        simp only [nums, List.length_map] at hj
        rw [cell_blk hB.1, List.getElem?_toArray, List.getElem?_eq_getElem (by simp only [en, nums, List.length_map]; omega)]; rfl)
      (fun j hj => by
        simp only [nums, List.length_map] at hj
        exact frozen_blk hB.1 (cln_fre hB.2) (by simp only [en, nums, List.size_toArray, List.length_map]; omega))
      (nums_one l)
    rw [setCells_setBlk _ _ _ _ hB.1, splice_spl _ _ _ (by simp only [en, nums, List.length_map]; omega)] at hr
    have e1 : spl (en (.ints o cl)) off (nums .i64 l) = en (.ints o (over cl off l)) := by
      simp [spl, en, nums, over]
    rw [e1] at hr
    rw [ha h0, g5]
    refine ok_bnd.2 (ok_runV hr (x := (l.length : Int)) (by simp [goInt, dec1, dec, dInt, Value.cells]) (hq _ (C.set hb _ ?_)))
    simp only [en, nums, List.length_map]
    exact over_length hfit
def topOf (fl : List Fr) : Int := match fl.getLast? with
  | some F => F.fin
  | none => 0
/-- All stays but a page: its record, its cells, its frames. -/
def Ke (T T' : Hp) (p cb : Nat) : Prop := ∀ b o, T b = some o → b ≠ p → b ≠ cb → (∀ L, o ≠ .frs p L) → T' b = some o
theorem lay_spec (h : Th en w T) {p cb n base : Nat} {P : Pg} {fl : List Fr} {cl : List Int} (hp : T p = some (.page P)) (hc : P.cells = ⟨some ⟨cb, 0, none⟩, n, n⟩) (hcb : T cb = some (.ints (.cells p) cl)) (hcl : cl.length = n) (hn : n ≤ 4096) (hf : Fs T p P.frames fl) (hfl : fl.length ≤ 50000) (hsm : ∀ F ∈ fl, F.Small) (htop : topOf fl = base)
    {m : Int} {room : Nat} {c : Option Nat} {sl st : Sl} {ls lt : List Int} (hfit : base + 4 + ls.length + room ≤ n) (hroom : lt.length ≤ room) (hls : sl.len = ls.length) (hlt : st.len = lt.length)
    (hA1 : ∀ w' T', Tr en w T w' T' → Ke T T' p cb → Arr w'.heap.size w' sl (nums .i64 ls)) (hA2 : ∀ w' T', Tr en w T w' T' → Ke T T' p cb → Arr w'.heap.size w' st (nums .i64 lt)) :
    Sp (f32_frames_page_lay (pt (some p)) m sl st (room : Int) (pt c)) w T fun _ _ T' => ∃ s' cl', T' p = some (.page { P with frames := s' }) ∧ Fs T' p s' (fl ++ [⟨m, base, ls.length, lt.length, room, c⟩]) ∧ T' cb = some (.ints (.cells p) cl') ∧ cl'.length = n ∧ (∀ a k, a + k ≤ base → (cl'.drop a).take k = (cl.drop a).take k) ∧ (cl'.drop (base + 4)).take ls.length = ls ∧ (cl'.drop (base + 4 + ls.length)).take lt.length = lt ∧ Ke T T' p cb := by
  unfold f32_frames_page_lay
  have C := Tr.refl h
  have hts : Sp (f29_frames_page_top (pt (some p))) w T fun r _ T' => T' = T ∧ r = topOf fl := top_spec C.th hp hf hsm
  rw [htop] at hts
  refine ok_trd C hts fun w1 C => ?_
  rw [hls, hlt]
  refine ok_tnew C (.frs p [fr0]) rfl fun b w1 hb C => ?_
  obtain ⟨F, hF⟩ : ∃ F : Fr, F = ⟨m, base, ls.length, lt.length, room, c⟩ := ⟨_, rfl⟩
  refine ok_twr0 C (.frs p [F]) (put_eq _ _ _) (Nat.le_refl 6) rfl (by subst hF; rfl) fun w1 C => ?_
  rw [put_put] at C
  have k1 : ∀ x o, T x = some o → put T b (.frs p [F]) x = some o := fun x o h => put_new h hb
  have hb1 := put_eq T b (.frs p [F])
  generalize put T b (.frs p [F]) = T1 at C k1 hb1
  simp only [bnd_as, bnd_ret]
  refine ok_tord C fun o w1 C => ?_
  refine ok_drfP ?_
  refine ok_tld C (k1 _ _ hp) (x := P.frames) rfl ?_
  refine ok_tld0 C hb1 (x := (m, (base : Int), (ls.length : Int), (lt.length : Int), (room : Int), pt c)) (by subst hF; rfl) ?_
  have hFv := hF
  subst hF
  refine ok_bnd.2 (ok_buildF (F := ⟨m, base, ls.length, lt.length, room, c⟩) ?_)
  have hbw : blk (w1.alloc (.cells (Fr.en ⟨m, base, ls.length, lt.length, room, c⟩).toArray 75)) w1.heap.size = some (Fr.en ⟨m, base, ls.length, lt.length, room, c⟩).toArray := by rw [blk_alloc, if_pos rfl]
  have C1 := C.call ((Below.refl _ _).alloc (Nat.le_refl _) (.cells (Fr.en ⟨m, base, ls.length, lt.length, room, c⟩).toArray 75))
  generalize w1.alloc (.cells (Fr.en ⟨m, base, ls.length, lt.length, room, c⟩).toArray 75) = w2 at C1 hbw ⊢
  generalize w1.heap.size = bw at hbw ⊢
  clear C
  refine ok_tchk C1 (k1 _ _ hp) rfl ?_
  refine ok_appF C1 (hf.mono (fun b L h => k1 _ _ h)) hbw (by omega) fun s' w3 T2 C hf2 k2 => ?_
  have hp2 := k2 _ _ (k1 _ _ hp) (by simp)
  refine ok_drfP ?_
  refine ok_twr C (.page { P with frames := s' }) hp2 (by simp [en, Pg.en]) rfl rfl fun w4 C => ?_
  have k3 : ∀ x o, T2 x = some o → (∀ P, o ≠ .page P) → put T2 p (.page { P with frames := s' }) x = some o := fun x o h hn => put_other h hp2 (hn P)
  have hp3 := put_eq T2 p (.page { P with frames := s' })
  have n3 : ∀ x, x ≠ p → put T2 p (.page { P with frames := s' }) x = T2 x := fun x h => put_ne _ h
  generalize put T2 p (.page { P with frames := s' }) = T3 at C k3 hp3 n3
  have hf3 := hf2.mono (fun b L h => k3 _ _ h (by simp))
  have hcb3 := k3 _ _ (k2 _ _ (k1 _ _ hcb) (by simp)) (by simp)
  obtain ⟨fb, L, ha, hb3, hL, ht⟩ := hf3.blk (by simp)
  have hFL := take_at ht (i := fl.length) (F := ⟨m, base, ls.length, lt.length, room, c⟩) (by simp)
  have hFs : Fr.Small ⟨m, base, ls.length, lt.length, room, c⟩ := ⟨⟨by simp only; omega, by simp only; omega⟩, ⟨by simp only; omega, by simp only; omega⟩, ⟨by simp only; omega, by simp only; omega⟩, by simp only; omega⟩
  have hfin : (Fr.fin ⟨m, base, ls.length, lt.length, room, c⟩) ≤ n := by unfold Fr.fin; simp only; omega
  have hca : P.cells.a = some ⟨cb, 0, none⟩ := by rw [hc]
  have hcc : (Fr.fin ⟨m, base, ls.length, lt.length, room, c⟩) ≤ P.cells.cap := by rw [hc]; exact hfin
  refine ok_trd C (last_spec C.th hp3 hf3 (by simp) ha) fun w5 C => ?_
  rw [show (fl ++ [(⟨m, base, ls.length, lt.length, room, c⟩ : Fr)]).length - 1 = fl.length by simp]
  refine ok_trd C (slots_spec (P := { P with frames := s' }) C.th hp3 hb3 hFL hFs hca hcc) fun w6 C => ?_
  have ke3 : Ke T T3 p cb := fun x o h h1 _ h3 => by rw [n3 x h1]; exact k2 _ _ (k1 _ _ h) h3
  refine ok_tcopy C hcb3 (off := base + 4) (hA1 _ _ C ke3) hls (by show (ls.length : Int).toNat = _; omega) (by omega) (fun h0 => ?_) fun w7 C => ?_
  · have : ls.length ≠ 0 := fun h => h0 (List.eq_nil_of_length_eq_zero h)
    simp only
    rw [if_neg (by omega), show ((base : Int) + 4).toNat = base + 4 by omega]
  have k4 : ∀ x o, T3 x = some o → (∀ q L, o ≠ .ints q L) → put T3 cb (.ints (.cells p) (over cl (base + 4) ls)) x = some o := fun x o h hn => put_other h hcb3 (hn _ _)
  have hcb4 := put_eq T3 cb (.ints (.cells p) (over cl (base + 4) ls))
  have n4 : ∀ x, x ≠ cb → put T3 cb (.ints (.cells p) (over cl (base + 4) ls)) x = T3 x := fun x h => put_ne _ h
  generalize put T3 cb (.ints (.cells p) (over cl (base + 4) ls)) = T4 at C k4 hcb4 n4
  have ke4 : Ke T T4 p cb := fun x o h h1 h2 h3 => by rw [n4 x h2]; exact ke3 x o h h1 h2 h3
  refine ok_trd C (stack_spec (P := { P with frames := s' }) C.th (k4 _ _ hp3 (by simp)) (k4 _ _ hb3 (by simp)) hFL hFs hca hcc) fun w8 C => ?_
  have hol := over_length (cl := cl) (l := ls) (off := base + 4) (by omega)
  refine ok_tcopy C hcb4 (off := base + 4 + ls.length) (hA2 _ _ C ke4) hlt (by show (lt.length : Int).toNat = _; omega) (by omega) (fun h0 => ?_) fun w9 C => ?_
  · have : lt.length ≠ 0 := fun h => h0 (List.eq_nil_of_length_eq_zero h)
    simp only
    rw [if_neg (by omega), show ((base : Int) + 4 + ls.length).toNat = base + 4 + ls.length by omega]
  refine ok_ret.2 ⟨_, C, s', _, put_other (k4 _ _ hp3 (by simp)) hcb4 (by simp), (hf3.mono fun b L h => put_other (k4 _ _ h (by simp)) hcb4 (by simp)), put_eq _ _ _, ?_, ?_, ?_, ?_, ?_⟩
  · rw [over_length (by omega), hol, hcl]
  · intro a k hak
    rw [over_out (by omega) (by omega), over_out (by omega) (by omega)]
  · rw [over_out (by omega) (Nat.le_refl _), over_at (by omega)]
  · exact over_at (by omega)
  · intro x o h h1 h2 h3
    rw [put_ne _ h2]
    exact ke4 x o h h1 h2 h3
end Go.Proofs.Ytckfidopkajpaaa
