/-
  Part of the proof: B30
-/
import Derived.Test.YtpgalllceejpnaaB29
import Derived.Test.YtpgalllceejpnaaShQ
set_option linter.unusedSimpArgs false
set_option linter.unusedVariables false
namespace Go.Proofs.Ytpgalllceejpnaa
set_option linter.unusedVariables false
open Go.Sh Go.RowKit
set_option maxRecDepth 100000
abbrev bookC (v : Sl) : List Value := [.slice none 0 0, .slice none 0 0, .slice none 0 0, .slice none 0 0, .slice none 0 0, .slice none 0 0, .slice none 0 0, .slice v.a v.len v.cap]
section
variable {α : Type} {S : Nat → Prop} {w0 w : World} {L : List It} {Q : α → World → Prop}
theorem bookBitsL (C : Cx S w0 w L) {i j p : Nat} {v : Sl} {ss : List Sl} (hi : L[i]? = some (.cells p (bookC v))) (hj : L[j]? = some (.own v (ss.map slV))) (hij : i ≠ j) (hlen : ss.length ≤ 1000) (s : Sl) {f : Unit → M α}
    (hq : ∀ v' w', Cx S w0 w' ((L.set j (.own v' ((ss ++ [s]).map slV))).set i (.cells p (bookC v'))) → Ok (f ()) w' Q) : Ok (bnd (f23_palaverref00_Book_Bits (some ⟨p, 0, none⟩) s) f) w Q := by
  refine ok_bnd.2 ?_
  unfold f23_palaverref00_Book_Bits
  have hvl : v.len = ss.length := by have := (C.get hj).1; simpa using this
  refine ok_bnd.2 (ok_drf.2 ⟨_, rfl, ?_⟩)
  refine ok_rdL C i hi (x := v) rfl ?_
  refine ok_push1 slt46 C hj (slV_one _) (slV s) rfl rfl (by omega) (by simp only [maxLen]; omega) fun v' w1 C hr => ?_
  refine ok_bnd.2 (ok_drf.2 ⟨_, rfl, ?_⟩)
  have hi' : (L.set j (.own v' (ss.map slV ++ [slV s])))[i]? = some (.cells p (bookC v)) := by rw [List.getElem?_set_ne (Ne.symm hij)]; exact hi
  refine ok_wrC C i (bookC v') hi' (by simp [bookC]) rfl rfl fun w2 C => ok_ret.2 (hq v' w2 ?_)
  rw [List.map_append]
  exact C
theorem bookOwn_spec (C : Cx S w0 w L) {i p : Nat} {v : Sl} {ss : List Sl} {ls : List (List Int)} {R : List It} (hi : L[i]? = some (.cells p (bookC v))) (C' : Cx S w0 w (.own v (ss.map slV) :: (items ss ls ++ R))) (hls : ss.length = ls.length) (hss : ss.length ≤ 1000) (hbig : ∀ (j : Nat) (l : List Int), ls[j]? = some l → l.length ≤ 4194304) :
    Ok (f24_palaverref00_Book_Own (some ⟨p, 0, none⟩)) w fun r w' => r = true ∧ Keep S w0 w' := by
  unfold f24_palaverref00_Book_Own
  refine ok_bnd.2 (ok_drf.2 ⟨_, rfl, ?_⟩)
  refine ok_rdL C i hi (x := nilS) rfl (ok_bnd.2 (ok_mono (ownInts0 w) ?_))
  rintro r _ ⟨rfl, rfl⟩
  refine ok_bnd.2 (ok_drf.2 ⟨_, rfl, ?_⟩)
  refine ok_rdL C i hi (x := nilS) rfl (ok_bnd.2 (ok_mono (ownNumbers0 w) ?_))
  rintro r _ ⟨rfl, rfl⟩
  refine ok_bnd.2 (ok_drf.2 ⟨_, rfl, ?_⟩)
  refine ok_rdL C i hi (x := nilS) rfl (ok_bnd.2 (ok_mono (ownOops0 w) ?_))
  rintro r _ ⟨rfl, rfl⟩
  refine ok_bnd.2 (ok_drf.2 ⟨_, rfl, ?_⟩)
  refine ok_rdL C i hi (x := nilS) rfl (ok_bnd.2 (ok_mono (ownDeeds0 w) ?_))
  rintro r _ ⟨rfl, rfl⟩
  refine ok_bnd.2 (ok_drf.2 ⟨_, rfl, ?_⟩)
  refine ok_rdL C i hi (x := nilS) rfl (ok_bnd.2 (ok_mono (ownFiles0 w) ?_))
  rintro r _ ⟨rfl, rfl⟩
  refine ok_bnd.2 (ok_drf.2 ⟨_, rfl, ?_⟩)
  refine ok_rdL C i hi (x := nilS) rfl (ok_bnd.2 (ok_mono (ownChoices0 w) ?_))
  rintro r _ ⟨rfl, rfl⟩
  refine ok_bnd.2 (ok_drf.2 ⟨_, rfl, ?_⟩)
  refine ok_rdL C i hi (x := nilS) rfl (ok_bnd.2 (ok_mono (ownTexts0 w) ?_))
  rintro r _ ⟨rfl, rfl⟩
  refine ok_bnd.2 (ok_drf.2 ⟨_, rfl, ?_⟩)
  refine ok_rdL C i hi (x := v) rfl (ok_bnd.2 (ok_mono (ownBits_spec S w0 w v ss ls R C' hls hss hbig) ?_))
  rintro r w' ⟨rfl, hk⟩
  exact ok_ret.2 ⟨rfl, hk⟩
end
theorem own_nil (B : Nat) (w : World) : Own B w nilS (wds []) := ⟨rfl, Nat.le_refl _, Nat.zero_le _, .inl ⟨rfl, rfl⟩⟩
/-- What New makes. -/
noncomputable def newD (W H D : Int) : Int × Int × Int := if Sized (W, H, D, ⟨none, 0, 0⟩) then (W, H, D) else (0, 0, 0)
noncomputable def newLs (W H D : Int) : List Int := if Sized (W, H, D, ⟨none, 0, 0⟩) then List.replicate (st (W, H, D, ⟨none, 0, 0⟩) * H).toNat 0 else []
noncomputable def newE (W H D : Int) : Int := if Sized (W, H, D, ⟨none, 0, 0⟩) then 0 else 110
theorem new_any {m : M (Form × Int)} {W H D : Int} {w : World} (h : Ok m w fun r w' => Below w.heap.size w w' ∧ (if Sized (W, H, D, ⟨none, 0, 0⟩) then r.2 = 0 ∧ r.1.1 = W ∧ r.1.2.1 = H ∧ r.1.2.2.1 = D ∧ Own w.heap.size w' r.1.2.2.2 (wds (List.replicate (st (W, H, D, ⟨none, 0, 0⟩) * H).toNat 0)) else r = (zf, 110))) :
    Ok m w fun r w' => Below w.heap.size w w' ∧ ∃ R, r = (((newD W H D).1, (newD W H D).2.1, (newD W H D).2.2, R), newE W H D) ∧ Own w.heap.size w' R (wds (newLs W H D)) := by
  refine ok_mono h ?_
  rintro ⟨⟨r1, r2, r3, R⟩, e⟩ w' ⟨hB, h⟩
  refine ⟨hB, ?_⟩
  unfold newD newLs newE
  by_cases hs : Sized (W, H, D, ⟨none, 0, 0⟩)
  · simp only [if_pos hs] at h ⊢
    obtain ⟨rfl, rfl, rfl, rfl, O⟩ := h
    exact ⟨R, rfl, O⟩
  · simp only [if_neg hs] at h ⊢
    cases h
    exact ⟨nilS, rfl, own_nil _ _⟩
theorem newLs_len (W H D : Int) : (newLs W H D).length ≤ 1048576 := by
  unfold newLs
  split
  · rename_i h
    have h2 := h.2.2.2
    simp only [List.length_replicate]
    have h3 : st (W, H, D, ⟨none, 0, 0⟩) * H ≤ 1048576 := h2
    omega
  · simp
/-- What Put makes. -/
noncomputable def putD (f : Form) (x y p : Int) : Int × Int × Int := if Good f ∧ Inside f x y ∧ bAndNot .u32 p (onesF f.2.2.1) = 0 then (f.1, f.2.1, f.2.2.1) else (0, 0, 0)
noncomputable def putLs (f : Form) (l : List Int) (x y p : Int) : List Int := if Good f ∧ Inside f x y ∧ bAndNot .u32 p (onesF f.2.2.1) = 0 then putL f l x y p else []
noncomputable def putE (f : Form) (x y p : Int) : Int := if Good f ∧ Inside f x y ∧ bAndNot .u32 p (onesF f.2.2.1) = 0 then 0 else if Good f then 1 else 110
theorem put_any {m : M (Form × Int)} {f : Form} {l : List Int} {x y p : Int} {w : World} (h : Ok m w fun r w' => Below w.heap.size w w' ∧ (if Good f ∧ Inside f x y ∧ bAndNot .u32 p (onesF f.2.2.1) = 0 then r.2 = 0 ∧ r.1.1 = f.1 ∧ r.1.2.1 = f.2.1 ∧ r.1.2.2.1 = f.2.2.1 ∧ Own w.heap.size w' r.1.2.2.2 (wds (putL f l x y p))
       else r = (zf, if Good f then 1 else 110))) :
    Ok m w fun r w' => Below w.heap.size w w' ∧ ∃ R, r = (((putD f x y p).1, (putD f x y p).2.1, (putD f x y p).2.2, R), putE f x y p) ∧ Own w.heap.size w' R (wds (putLs f l x y p)) := by
  refine ok_mono h ?_
  rintro ⟨⟨r1, r2, r3, R⟩, e⟩ w' ⟨hB, h⟩
  refine ⟨hB, ?_⟩
  unfold putD putLs putE
  by_cases hs : Good f ∧ Inside f x y ∧ bAndNot .u32 p (onesF f.2.2.1) = 0
  · simp only [if_pos hs] at h ⊢
    obtain ⟨rfl, rfl, rfl, rfl, O⟩ := h
    exact ⟨R, rfl, O⟩
  · simp only [if_neg hs] at h ⊢
    cases h
    exact ⟨nilS, rfl, own_nil _ _⟩
theorem putLs_len (f : Form) (l : List Int) (x y p : Int) : (putLs f l x y p).length ≤ l.length := by
  unfold putLs; split
  · simp [putL]
  · simp
set_option maxHeartbeats 1000000 in
theorem forms_spec (f : Form) (x y p rule s d : Int) (l : List Int) (w : World) (Hf : Arr w.heap.size w f.2.2.2 (wds l)) (hl : Wds l) (hx : -9223372036854775808 ≤ x ∧ x ≤ 9223372036854775807) (hy : -9223372036854775808 ≤ y ∧ y ≤ 9223372036854775807)
    (hp : 0 ≤ p ∧ p < 4294967296) (hs : 0 ≤ s ∧ s < 4294967296) (hd : 0 ≤ d ∧ d < 4294967296) : Ok (f3_palaverlaw11_BitForms f x y p rule s d) w fun r w' => r = true ∧ Below w.heap.size w w' := by
  unfold f3_palaverlaw11_BitForms
  have C := Cx.nil No w
  refine ok_newL C fun p1 w1 C => ok_callL C (works_spec w1) (fun _ _ h => h.2) fun r w2 hr C => ?_
  obtain ⟨rfl, _⟩ := hr
  refine ok_rdL0 C 0 rfl (x := f) rfl ?_
  refine ok_rdL0 C 0 rfl (x := f) rfl ?_
  refine ok_callL C (far_spec f f w2) (fun _ _ h => h.2) fun r w3 hr C => ?_
  obtain ⟨rfl, _⟩ := hr
  by_cases hfar : 2097152 < f.2.2.2.len ∨ 2097152 < f.2.2.2.len
  · exact ok_true (by simpa using hfar) (ok_ret.2 ⟨rfl, C.below⟩)
  refine ok_false (by simpa using hfar) ?_
  have hlen : f.2.2.2.len = l.length := by have := Hf.1; simpa using this
  refine ok_rdL C 0 rfl (x := f.1) rfl ?_
  refine ok_rdL C 0 rfl (x := f.2.1) rfl ?_
  refine ok_rdL C 0 rfl (x := f.2.2.1) rfl ?_
  refine ok_bnd.2 (ok_mono (new_any (new_spec f.1 f.2.1 f.2.2.1 w3)) ?_)
  rintro _ w4 ⟨hB, Rg, rfl, O⟩
  have C := C.addOwn hB O
  refine ok_newWrL C rfl rfl fun p10 w5 C => ?_
  refine ok_rdL C 2 rfl (x := f.1) rfl ?_
  refine ok_rdL C 2 rfl (x := f.2.1) rfl ?_
  refine ok_rdL C 2 rfl (x := f.2.2.1) rfl ?_
  refine ok_bnd.2 (ok_mono (new_any (refnew_spec f.1 f.2.1 f.2.2.1 w5)) ?_)
  rintro _ w6 ⟨hB, Rh, rfl, O⟩
  have C := C.addOwn hB O
  refine ok_newWrL C rfl rfl fun p15 w7 C => ?_
  obtain ⟨nd, hnd⟩ : ∃ nd, nd = newD f.1 f.2.1 f.2.2.1 := ⟨_, rfl⟩
  rw [← hnd] at C ⊢
  refine ok_rdL0 C 2 rfl (x := (nd.1, nd.2.1, nd.2.2, Rg)) rfl ?_
  refine ok_rdL0 C 0 rfl (x := (nd.1, nd.2.1, nd.2.2, Rh)) rfl ?_
  refine sameL C (nd.1, nd.2.1, nd.2.2, Rg) (nd.1, nd.2.1, nd.2.2, Rh) _ _ (C.arr (i := 3) rfl) (C.arr (i := 1) rfl) fun w8 C => ?_
  refine ok_rdL0 C 4 rfl (x := f) rfl ?_
  refine ok_newWrL C rfl rfl fun p20 w9 C => ?_
  refine ok_rdL C 5 rfl (x := f.2.2.2) rfl ?_
  refine ok_bnd.2 (ok_mono (lent_spec f.2.2.2 l w9 (C.old Hf) (by omega)) ?_)
  rintro r w10 ⟨hB, rfl, hblk, hfre⟩
  obtain ⟨lb, hlb⟩ : ∃ lb, lb = w9.heap.size := ⟨_, rfl⟩
  have C := C.add hB (it := .cells lb (lentC l)) (by rw [hlb]; exact ⟨hblk, hfre⟩) (by intro b hb; simp only [It.at_, Option.some.injEq] at hb; omega)
  rw [← hlb]
  refine ok_wrC C 1 [.int .i64 f.1, .int .i64 f.2.1, .int .i64 f.2.2.1, .slice (lentS lb l).a (lentS lb l).len (lentS lb l).cap] rfl (by simp) rfl rfl fun w11 C => ?_
  dsimp only [List.set] at C
  obtain ⟨o, ho⟩ : ∃ o : Form, o = (f.1, f.2.1, f.2.2.1, lentS lb l) := ⟨_, rfl⟩
  have hmx : l.length + 2 ≤ maxLen := by simp only [maxLen]; omega
  have Ho : ∀ {w' : World} {L : List It} {i : Nat}, Cx No w w' L → L[i]? = some (.cells lb (lentC l)) → Arr w'.heap.size w' o.2.2.2 (wds l) := fun C hi => by rw [ho]; exact arr_lent (C.get hi).1 hmx
  have hgo : Good o ↔ Good f := by rw [ho]; unfold Good; rw [hlen]; exact Iff.rfl
  have hes : errS o = errS f := by unfold errS; simp only [hgo]
  have hpix : pixS o l x y = pixS f l x y := by
    unfold pixS; simp only [hgo]
    have : ∀ x y, Inside o x y ↔ Inside f x y := fun x y => by rw [ho]; exact Iff.rfl
    simp only [this]
    rw [ho]; rfl
  have hput : putD o x y p = putD f x y p ∧ putLs o l x y p = putLs f l x y p ∧ putE o x y p = putE f x y p := by
    have h1 : Inside o x y ↔ Inside f x y := by rw [ho]; exact Iff.rfl
    have h2 : o.2.2.1 = f.2.2.1 := by rw [ho]
    have h3 : putL o l x y p = putL f l x y p := by rw [ho]; rfl
    have h4 : (o.1, o.2.1, o.2.2.1) = (f.1, f.2.1, f.2.2.1) := by rw [ho]
    have hc : (Good o ∧ Inside o x y ∧ bAndNot .u32 p (onesF o.2.2.1) = 0) ↔ (Good f ∧ Inside f x y ∧ bAndNot .u32 p (onesF f.2.2.1) = 0) := by rw [hgo, h1, h2]
    refine ⟨?_, ?_, ?_⟩
    · unfold putD; simp only [hc]; rw [h4]
    · unfold putLs; simp only [hc]; rw [h3]
    · unfold putE; simp only [hc]; simp only [hgo]
  refine ok_rdL0 C 1 rfl (x := o) (by rw [ho]; rfl) ?_
  refine ok_callL C (check_spec o w11) (fun _ _ h => h.2) fun r w12 hr C => ?_
  obtain ⟨rfl, _⟩ := hr
  refine ok_rdL0 C 6 rfl (x := f) rfl ?_
  refine ok_callL C (refcheck_spec f w12) (fun _ _ h => h.2) fun r w13 hr C => ?_
  obtain ⟨rfl, _⟩ := hr
  refine ok_rdL0 C 1 rfl (x := o) (by rw [ho]; rfl) ?_
  refine pixelL C o l x y hx hy (Ho C (i := 0) rfl) fun w14 C => ?_
  refine ok_rdL0 C 6 rfl (x := f) rfl ?_
  refine ok_callL C (refpixel_spec f l x y w14 (C.old Hf)) (fun _ _ h => h.2) fun r w15 hr C => ?_
  obtain ⟨rfl, _⟩ := hr
  refine ok_rdL0 C 1 rfl (x := o) (by rw [ho]; rfl) ?_
  refine ok_bnd.2 (ok_mono (put_any (put_spec o l x y p w15 hx hy (Ho C (i := 0) rfl))) ?_)
  rintro _ w16 ⟨hB, Ru, rfl, O⟩
  have C := C.addOwn hB O
  refine ok_newWrL C rfl rfl fun p33 w17 C => ?_
  refine ok_rdL0 C 8 rfl (x := f) rfl ?_
  refine ok_bnd.2 (ok_mono (put_any (refput_spec f l x y p w17 hp (C.old Hf) hl)) ?_)
  rintro _ w18 ⟨hB, Rv, rfl, O⟩
  have C := C.addOwn hB O
  refine ok_newWrL C rfl rfl fun p36 w19 C => ?_
  rw [hput.1, hput.2.1] at C
  rw [hput.1, hput.2.2]
  obtain ⟨pd, hpd⟩ : ∃ pd, pd = putD f x y p := ⟨_, rfl⟩
  rw [← hpd] at C ⊢
  refine ok_rdL0 C 2 rfl (x := (pd.1, pd.2.1, pd.2.2, Ru)) rfl ?_
  refine ok_rdL0 C 0 rfl (x := (pd.1, pd.2.1, pd.2.2, Rv)) rfl ?_
  refine sameL C (pd.1, pd.2.1, pd.2.2, Ru) (pd.1, pd.2.1, pd.2.2, Rv) _ _ (C.arr (i := 3) rfl) (C.arr (i := 1) rfl) fun w20 C => ?_
  refine ok_bnd.2 (ok_mono (rule_spec rule s d w20) ?_)
  rintro r40 _ ⟨hr40, rfl⟩
  refine ok_bnd.2 (ok_mono (refrule_spec rule s d _ hs hd) ?_)
  rintro r41 w20 ⟨hr41, rfl⟩
  have hrr : r40 = r41 := by rw [hr40, hr41]
  subst hrr
  refine ok_rdL C 5 rfl (x := lentS lb l) rfl ?_
  refine ok_rdL C 10 rfl (x := f.2.2.2) rfl ?_
  refine ok_callL C (whole_spec lb l f.2.2.2 w20 (C.get (i := 4) rfl).1 (by omega) (C.old Hf)) (fun _ _ h => h.2) fun r w21 hr C => ?_
  obtain ⟨rfl, _⟩ := hr
  refine ok_newL C fun p45 w22 C => ?_
  have C := C.addNil
  have C : Cx No w w22 (.own nilS (([] : List Sl).map slV) :: .cells p45 (bookC nilS) :: _) := C
  refine ok_rdL C 10 rfl (x := Rg) rfl ?_
  refine bookBitsL C (i := 1) (j := 0) rfl rfl (by decide) (by simp) Rg fun v1 w23 C => ?_
  dsimp only [List.set] at C
  refine ok_rdL C 4 rfl (x := Ru) rfl ?_
  refine bookBitsL C (i := 1) (j := 0) rfl rfl (by decide) (by simp) Ru fun v2 w24 C => ?_
  dsimp only [List.set] at C
  refine ok_rdL C 7 rfl (x := lentS lb l) rfl ?_
  refine bookBitsL C (i := 1) (j := 0) rfl rfl (by decide) (by simp) (lentS lb l) fun v3 w25 C => ?_
  dsimp only [List.set] at C
  have Cb := C.get (i := 6) (it := .cells lb (lentC l)) rfl
  have C' := C.recast (i := 6) (new := .own (lentS lb l) (wds l)) rfl ⟨by simp, by simp, by simpa using hmx, .inr ⟨lb, _, rfl, Nat.zero_le _, Cb.1, Cb.2, by simp, fun i hi => by rw [List.getElem?_toArray, List.getElem?_append_left hi]⟩⟩ (by simp [It.at_])
  have C' := C'.pick [0, 11, 5, 6] (by decide)
  have hpl := putLs_len f l x y p
  have hnl := newLs_len f.1 f.2.1 f.2.2.1
  refine ok_bnd.2 (ok_mono (bookOwn_spec C (i := 1) rfl (R := []) (ss := [Rg, Ru, lentS lb l]) (ls := [newLs f.1 f.2.1 f.2.2.1, putLs f l x y p, l]) C' rfl (by simp) ?_) ?_)
  · intro j q hq
    rcases j with _ | _ | _ | j
    · cases hq; omega
    · cases hq; omega
    · cases hq; omega
    · cases hq
  rintro r w26 ⟨rfl, hk⟩
  refine ok_ret.2 ⟨?_, hk.all⟩
  rw [hes, hpix]
  simp
end Go.Proofs.Ytpgalllceejpnaa
