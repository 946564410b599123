/-
  Parts of the proof: FBf, FBg. It states what the functions do; no further condition.
-/
import Derived.Test.YtckfidopkajpaaaFBe
set_option linter.unusedVariables false
set_option linter.unusedSimpArgs false
/-
  A context is named; This.
-/
namespace Go.Proofs.Ytckfidopkajpaaa
set_option linter.unusedVariables false
open Go.Sh Go.RowKit
set_option maxRecDepth 100000
variable {w : World} {T : Hp} {sb : Nat} {S : Sk} {A : St} {G : Gh}
def ptV (b : Option Nat) : List Value := [.pointer (pt b)]
theorem row61 : RowT Try.prog 61 60 ptV 1 none 8 :=
  ⟨by kernel_rfl, ⟨Try.t60, .pointer none, by kernel_rfl, rfl, rfl, rfl, rfl⟩, by decide, fun _ => rfl, fun b u hu => by simp only [ptV, List.mem_singleton] at hu; subst hu; rfl⟩
theorem en_named (l : List (Option Nat)) : en (.named l) = l.flatMap ptV := by
  show l.map _ = _
  induction l with
  | nil => rfl
  | cons x l ih => rw [List.flatMap_cons, ← ih]; rfl
theorem Inv.nmdRw (I : Inv T sb S A G) : Rw T Ob.named S.named (A.named.map G.cx) := by
  obtain ⟨h1, h2, h3, h4⟩ := I.nmd
  refine ⟨by simpa using h1, h2, h3, h4.imp id ?_⟩
  rintro ⟨b, L, g1, g2, g3, g4⟩
  exact ⟨b, L, g1, g2, g3, by rw [List.length_map]; exact g4⟩
theorem name_num {A : St} {k j : Nat} (hk : k ∉ A.named) : ({ A with named := A.named ++ [k] } : St).num j = if j = k then (A.named.length : Int) + 1 else A.num j := by
  unfold St.num
  simp only [List.mem_append, List.mem_singleton]
  by_cases e : j = k
  · subst e
    simp only [or_true, if_true]
    rw [List.idxOf_append, if_neg hk]
    simp
  · simp only [e, or_false, if_false]
    split
    · rename_i hm
      rw [List.idxOf_append, if_pos hm]
    · rfl
/-- One more is named. -/
theorem Inv.name (I : Inv T sb S A G) {k c : Nat} {X : Ct} (hk : k ∉ A.named) (hc : G.cx k = some c) (hX : T c = some (.ctx X)) {s' : Sl} {T2 : Hp} (hs : Rw T2 Ob.named s' ((A.named ++ [k]).map G.cx))
    (k1 : ∀ b o, T b = some o → b ≠ sb → b ≠ c → (∀ L, o ≠ .named L) → T2 b = some o) (k2 : T2 sb = some (.stk { S with named := s' })) (k3 : T2 c = some (.ctx { X with number := (A.named.length : Int) + 1 })) : Inv T2 sb { S with named := s' } { A with named := A.named ++ [k] } G := by
  have keep : ∀ b o, T b = some o → (∀ S, o ≠ .stk S) → (∀ C, o ≠ .ctx C) → (∀ L, o ≠ .named L) → T2 b = some o := fun b o h n1 n2 n3 => k1 b o h (by rintro rfl; rw [I.stk, Option.some.injEq] at h; exact n1 S h.symm) (by rintro rfl; rw [hX, Option.some.injEq] at h; exact n2 X h.symm) n3
  refine { I with stk := k2, living := I.living, lmax := I.lmax, pgs := ?_, page := ?_, ctx := ?_, nmd := ?_, nctx := ?_, nnd := ?_ }
  · obtain ⟨g1, g2, g3, b, L', g4, g5, g6⟩ := I.pgs
    exact ⟨g1, g2, g3, b, L', g4, keep _ _ g5 (by simp) (by simp) (by simp), g6⟩
  · intro p hp
    obtain ⟨P, fl, cb, cl, hP⟩ := I.page p hp
    have hP := hP.mono (T' := T2) (fun P h => keep _ _ h (by simp) (by simp) (by simp)) (fun b L h => keep _ _ h (by simp) (by simp) (by simp)) (fun b L h => keep _ _ h (by simp) (by simp) (by simp))
    refine ⟨P, fl, cb, cl, { hP with fr := fun i F id h h' => ?_, below := fun id h => (hP.below id h).like (A' := { A with named := A.named ++ [k] }) rfl }⟩
    obtain ⟨a, ka⟩ := hP.fr i F id h h'
    exact ⟨a, { ka with }⟩
  · intro id c' hc'
    obtain ⟨C, a, kc⟩ := I.ctx id c' hc'
    by_cases e : id = k
    · subst e
      have : c' = c := by rw [hc, Option.some.injEq] at hc'; exact hc'.symm
      subst this
      have : C = X := by have := kc.ctx; rw [hX, Option.some.injEq, Ob.ctx.injEq] at this; exact this.symm
      subst this
      refine ⟨_, a, { kc with ctx := k3, number := by rw [name_num hk, if_pos rfl], lone := fun h1 h2 => ?_ }⟩
      obtain ⟨g1, g2, g3, g4, g5, g6, g7, g8⟩ := kc.lone h1 h2
      exact ⟨g1, g2, g3, g4, g5, g6.mono fun b L h => keep _ _ h (by simp) (by simp) (by simp), g7.mono fun b L h => keep _ _ h (by simp) (by simp) (by simp), g8.like (A' := { A with named := A.named ++ [id] }) rfl⟩
    · have hne : c' ≠ c := by rintro rfl; exact e (I.inj _ _ _ hc' hc)
      refine ⟨C, a, { kc with ctx := k1 _ _ kc.ctx (by rintro rfl; have := kc.ctx; rw [I.stk] at this; cases this) hne (by simp), number := by rw [name_num hk, if_neg e]; exact kc.number, lone := fun h1 h2 => ?_ }⟩
      obtain ⟨g1, g2, g3, g4, g5, g6, g7, g8⟩ := kc.lone h1 h2
      exact ⟨g1, g2, g3, g4, g5, g6.mono fun b L h => keep _ _ h (by simp) (by simp) (by simp), g7.mono fun b L h => keep _ _ h (by simp) (by simp) (by simp), g8.like (A' := { A with named := A.named ++ [k] }) rfl⟩
  · have h1 := hs.len
    refine ⟨by simpa using h1, hs.le, hs.max, hs.at_.imp id ?_⟩
    rintro ⟨b, L, g1, g2, g3, g4⟩
    exact ⟨b, L, g1, g2, g3, by rw [List.length_map] at g4; exact g4⟩
  · intro id hid
    simp only [List.mem_append, List.mem_singleton] at hid
    rcases hid with h | rfl
    · exact I.nctx id h
    · rw [hc]; simp
  · exact List.nodup_append.2 ⟨I.nnd, by simp, by simp only [List.mem_singleton]; rintro a ha _ rfl rfl; exact hk ha⟩
/-- A context's number. -/
theorem name_spec (h : Th en w T) (I : Inv T sb S A G) {c e : Option Nat} (hc : Cn G.cx c e) (hn : A.named.length ≤ 4000000000000) :
    Sp (f59_frames_Stack_name (pt (some sb)) (pt c)) w T fun r _ T' => r = (A.name e).1 ∧ ∃ S', Inv T' sb S' (A.name e).2 G ∧ S'.top = S.top ∧ S'.alone = S.alone := by
  unfold f59_frames_Stack_name
  have C := Tr.refl h
  have hml : maxLen = 9223372036854775807 := by decide
  cases e with
  | none =>
    have hc : c = none := hc
    subst hc
    exact ok_true rfl (ok_ret.2 ⟨T, C, rfl, S, I, rfl, rfl⟩)
  | some k =>
    obtain ⟨b, rfl, hb⟩ := hc
    obtain ⟨X, a, kc⟩ := I.ctx k b hb
    refine ok_false rfl ?_
    refine ok_drfP ?_
    refine ok_tld C kc.ctx (x := X.number) rfl ?_
    unfold St.name
    simp only
    by_cases hm : k ∈ A.named
    · have hx : X.number = A.num k := kc.number
      have hz : ¬ A.num k = 0 := by unfold St.num; rw [if_pos hm]; omega
      rw [if_pos hm]
      refine ok_bnd.2 (ok_false (by rw [hx]; simpa using hz) (ok_ret.2 ?_))
      refine ok_drfP ?_
      refine ok_tld C kc.ctx (x := X.number) rfl ?_
      exact ok_ret.2 ⟨T, C, hx, S, I, rfl, rfl⟩
    · have hx : X.number = 0 := by rw [kc.number]; unfold St.num; rw [if_neg hm]
      rw [if_neg hm]
      refine ok_bnd.2 (ok_true (by rw [hx]; rfl) ?_)
      refine ok_drfP ?_
      refine ok_tld C I.stk (x := S.named) rfl ?_
      refine ok_bnd.2 (ok_build1R row61 (by decide) (F := some b) (v := .pointer (pt (some b))) rfl ?_)
      have hB : Below w.heap.size w (w.alloc (.cells (ptV (some b)).toArray 60)) := (Below.refl _ _).alloc (Nat.le_refl _) _
      have C1 := C.call hB
      have hnb : blk (w.alloc (.cells (ptV (some b)).toArray 60)) w.heap.size = some (ptV (some b)).toArray := by rw [blk_alloc, if_pos rfl]
      generalize w.alloc (.cells (ptV (some b)).toArray 60) = w1 at C1 hnb
      have K : Src Try.prog 1 61 (.slice (some ⟨w.heap.size, 0, none⟩) 1 1) 1 (([some b] : List (Option Nat)).flatMap ptV) w1 := Src.ofSlice w1 row61.und ⟨w.heap.size, 0, none⟩ 1 1 _ rfl (fun j u hj => by
        rw [addr_add, cell_blk hnb, Nat.zero_add, List.getElem?_toArray]; exact hj) (flat_one' row61.one)
      refine ok_appR C1 row61 en_named I.nmdRw K (by simp; omega) (by simp; omega) ?_
      intro r w2 T2 C2 hr hT
      rcases hT with ⟨_, _, h9⟩ | ⟨fb, L', rfl, hra, hfb⟩
      · cases h9
      have keep : ∀ b o, T b = some o → (∀ L, o ≠ .named L) → put T fb (.named L') b = some o := fun b o h hne => by
        rcases hfb with h0 | ⟨_, L, hL⟩
        · exact put_new h h0
        · exact put_other h hL (hne L)
      have hs2 := keep _ _ I.stk (by simp)
      have hc2 := keep _ _ kc.ctx (by simp)
      have hfs : fb ≠ sb := by
        rintro rfl
        rw [put_eq] at hs2; cases hs2
      have hfc : fb ≠ b := by
        rintro rfl
        rw [put_eq] at hc2; cases hc2
      have hsb : b ≠ sb := by
        rintro rfl
        have := I.stk; rw [kc.ctx] at this; cases this
      have hput := put_eq T fb (.named L')
      generalize put T fb (.named L') = T2 at C2 hr keep hs2 hc2 hput
      refine ok_drfP ?_
      refine ok_twr C2 (.stk { S with named := r }) hs2 (by simp [en, Sk.en]) rfl rfl fun w3 C3 => ?_
      refine ok_drfP ?_
      refine ok_tld C3 (put_eq _ _ _) (x := r) rfl ?_
      refine ok_drfP ?_
      have hrl : (r.len : Int) = (A.named.length : Int) + 1 := by have := hr.len; simp at this; omega
      rw [hrl]
      have hc3 := (put_ne (T := T2) (.stk { S with named := r }) hsb).trans hc2
      refine ok_ctw C3 { X with number := (A.named.length : Int) + 1 } hc3 (by decide) rfl rfl fun w4 C4 => ?_
      refine ok_ret.2 ?_
      refine ok_drfP ?_
      refine ok_tld C4 (put_eq _ _ _) (x := (A.named.length : Int) + 1) rfl ?_
      refine ok_ret.2 ⟨_, C4, rfl, { S with named := r }, ?_, rfl, rfl⟩
      refine I.name hm hb kc.ctx ?_ (fun b' o h n1 n2 n3 => by rw [put_ne _ n2, put_ne _ n1]; exact keep _ _ h n3) (by rw [put_ne _ (Ne.symm hsb)]; exact put_eq _ _ _) (put_eq _ _ _)
      rw [List.map_append, List.map_singleton, hb]
      refine hr.mono fun b' L h h' => ?_
      rw [put_ne _ (by rintro rfl; rw [hra, Option.some.injEq, Addr.mk.injEq] at h; exact hfc h.1), put_ne _ (by rintro rfl; rw [hra, Option.some.injEq, Addr.mk.injEq] at h; exact hfs h.1)]
      exact h'
end Go.Proofs.Ytckfidopkajpaaa

/-
  A context of a number; This, Sender, Method, Alive, Switch.
-/
namespace Go.Proofs.Ytckfidopkajpaaa
set_option linter.unusedVariables false
open Go.Sh Go.RowKit
set_option maxRecDepth 100000
variable {w : World} {T : Hp} {sb : Nat} {S : Sk} {A : St} {G : Gh}
theorem rd_named {l : List (Option Nat)} {i : Nat} {p : Option Nat} (h : l[i]? = some p) : rdv .ptr (en (.named l)).toArray (1 * i) = some (pt p) := by
  rw [en_named]
  exact flat_rdv (n := 1) (k := 0) (fun _ => rfl) h (by decide) rfl
theorem of_spec (h : Th en w T) (I : Inv T sb S A G) (x : Int) : Sp (f62_frames_Stack_of (pt (some sb)) x) w T fun r _ T' => T' = T ∧ ((∃ k c, A.of x = (some k, 0) ∧ A.alive k = true ∧ G.cx k = some c ∧ r = (pt (some c), 0)) ∨ (∃ e, A.of x = (none, e) ∧ e ≠ 0 ∧ r = (none, e))) := by
  unfold f62_frames_Stack_of
  have C := Tr.refl h
  have hml : maxLen = 9223372036854775807 := by decide
  have hr := I.nmdRw
  have hlen : S.named.len = A.named.length := by have := hr.len; simpa using this
  have hle := hr.le; have hmx := hr.max
  refine ok_bnd.2 (ok_mono (Q := fun (b : Bool) w' => b = decide (x < 1 ∨ x > A.named.length) ∧ w' = w) ?_ ?_)
  · by_cases h0 : x < 1
    · exact ok_true (by simpa using h0) (ok_ret.2 ⟨by simp [h0], rfl⟩)
    · refine ok_false (by simpa using h0) ?_
      refine ok_drfP ?_
      refine ok_tld C I.stk (x := S.named) rfl ?_
      refine ok_ret.2 ⟨?_, rfl⟩
      rw [hlen]; simp [h0]
  rintro _ w ⟨rfl, rfl⟩
  unfold St.of
  by_cases h0 : x < 1 ∨ x > A.named.length
  · rw [if_pos h0]
    exact ok_true (by simpa using h0) (ok_ret.2 ⟨T, C, rfl, .inr ⟨234, rfl, by decide, rfl⟩⟩)
  rw [if_neg h0]
  refine ok_false (by simpa using h0) ?_
  have hi : (x - 1).toNat < A.named.length := by omega
  have hk : A.named[(x - 1).toNat]? = some (A.named[(x - 1).toNat]'hi) := List.getElem?_eq_getElem hi
  generalize A.named[(x - 1).toNat]'hi = k at hk
  rw [hk]
  simp only
  obtain ⟨nb, L, ha, hb, hL, ht⟩ := hr.blk (by simp; omega)
  have hkm : k ∈ A.named := List.mem_of_getElem? hk
  obtain ⟨c, hc⟩ : ∃ c, G.cx k = some c := by
    cases h : G.cx k with
    | none => exact absurd h (I.nctx k hkm)
    | some c => exact ⟨c, rfl⟩
  have hLk : L[(x - 1).toNat]? = some (some c) := take_at ht (by rw [List.getElem?_map, hk, Option.map_some, hc])
  obtain ⟨X, a, kc⟩ := I.ctx k c hc
  have ew : IntKind.wrap .i64 (x - 1) = x - 1 := by rw [wrapI_in (by omega)]
  rw [ew]
  refine ok_drfP ?_
  refine ok_tld C I.stk (x := S.named) rfl ?_
  refine ok_ixN ha (by omega) (by omega) ?_
  refine ok_tld0 C hb (x := pt (some c)) (rd_named hLk) ?_
  refine ok_drfP ?_
  refine ok_tld C kc.ctx (x := X.dead) rfl ?_
  have hal : A.alive k = a.alive := by unfold St.alive; rw [kc.act]
  have hd := kc.dead
  cases hb2 : a.alive with
  | false =>
    rw [hb2] at hal hd
    refine ok_true hd (ok_ret.2 ⟨T, C, rfl, .inr ⟨235, ?_, by decide, rfl⟩⟩)
    rw [hal]; rfl
  | true =>
    rw [hb2] at hal hd
    refine ok_false hd ?_
    refine ok_drfP ?_
    refine ok_tld C I.stk (x := S.named) rfl ?_
    refine ok_ixN ha (by omega) (by omega) ?_
    refine ok_tld0 C hb (x := pt (some c)) (rd_named hLk) ?_
    refine ok_ret.2 ⟨T, C, rfl, .inl ⟨k, c, ?_, hal, hc, rfl⟩⟩
    rw [hal]; rfl
theorem St.Fit.name (h : A.Fit) (e : Option Nat) : (A.name e).2.Fit := by
  unfold St.name
  split
  · exact h
  · split
    · exact h
    · exact ⟨h.snd, h.act, h.extra, h.acy⟩
theorem St.name_active (e : Option Nat) : (A.name e).2.active = A.active ∧ (A.name e).2.acts = A.acts := by
  unfold St.name
  split
  · exact ⟨rfl, rfl⟩
  · split <;> exact ⟨rfl, rfl⟩
theorem Acv.tops {S' : Sk} {e : Option Nat} (h : Acv S A G e) (h1 : S'.top = S.top) (h2 : S'.alone = S.alone) : Acv S' A G e := by
  cases e with
  | none => exact ⟨h1.trans h.1, h2.trans h.2⟩
  | some k =>
    obtain ⟨g1, g2⟩ := h
    refine ⟨g1, ?_⟩
    rw [h1, h2]; exact g2
/-- Named: the state goes on. -/
theorem nameH (h : Th en w T) (hf : A.Fit) (I : Inv T sb S A G) (hA : Acv S A G A.active) {c e : Option Nat} (hc : Cn G.cx c e) (hn : A.named.length ≤ 4000000000000) :
    Sp (f59_frames_Stack_name (pt (some sb)) (pt c)) w T fun r _ T' => r = (A.name e).1 ∧ Hs T' sb (A.name e).2 := by
  refine ok_mono (name_spec h I hc hn) ?_
  rintro r w' ⟨T', C, h1, S', I', h2, h3⟩
  refine ⟨T', C, h1, hf.name e, S', G, I', ?_⟩
  rw [(St.name_active e).1]
  exact (hA.tops h2 h3).like (St.name_active e).2
/-- Whose context the active one's is. -/
theorem thisc_spec (h : Th en w T) (I : Inv T sb S A G) (hA : Acv S A G A.active) : Sp (f60_frames_Stack_this (pt (some sb))) w T fun r _ T' => ∃ cx' c, (∀ k b, G.cx k = some b → cx' k = some b) ∧ Inv T' sb S A { G with cx := cx' } ∧ r = pt c ∧ Cn cx' c A.active := by
  have C := Tr.refl h
  have hml : maxLen = 9223372036854775807 := by decide
  unfold f60_frames_Stack_this
  refine ok_drfP ?_
  refine ok_tld C I.stk (x := pt S.top) rfl ?_
  cases ht : S.top with
  | none =>
    refine ok_false rfl ?_
    refine ok_drfP ?_
    refine ok_tld C I.stk (x := pt S.alone) rfl ?_
    refine ok_ret.2 ⟨T, C, G.cx, S.alone, fun _ _ h => h, I, rfl, ?_⟩
    rcases hA.notop ht with ⟨h1, h2⟩ | ⟨id, c, h1, h2, h3, h4, h5⟩
    · rw [h1]; exact h2
    · rw [h1]; exact ⟨c, h3, h4⟩
  | some p =>
    obtain ⟨hp, h2, id, h3, h4, hlast⟩ := hA.top ht
    obtain ⟨hpos, hid⟩ := fid_last hlast
    obtain ⟨P, fl, cb, cl, hP⟩ := I.page p hp
    refine ok_true rfl ?_
    simp only [bnd_as, bnd_ret]
    refine ok_tord C fun o w3 C => ?_
    refine ok_drfP ?_
    refine ok_tld C I.stk (x := pt (some p)) (by rw [← ht]; rfl) ?_
    refine ok_drfP ?_
    refine ok_tld C I.stk (x := pt (some p)) (by rw [← ht]; rfl) ?_
    refine ok_drfP ?_
    refine ok_tld C hP.page (x := P.frames) rfl ?_
    have em : IntKind.wrap .i64 ((P.frames.len : Int) - 1) = (((G.fid p).length - 1 : Nat) : Int) := by
      have := hP.cnt; have := hP.frames.len; have := hP.frames.le; have := hP.frames.max
      rw [wrapI_in (by omega)]; omega
    rw [em]
    refine ok_tcall C (marry_spec C.th I hp hid) ?_
    rintro _ w6 T3 C ⟨c, rfl, I3, hext, hk3⟩
    refine ok_tchk C (hk3 _ _ hP.page (by simp)) rfl ?_
    refine ok_tchk C I3.stk (by rw [← ht]; rfl) ?_
    refine ok_ret.2 ⟨T3, C, cxu G.cx id c, some c, hext, I3, rfl, ?_⟩
    rw [h3]
    exact ⟨c, rfl, cxu_eq _ _ _⟩
theorem this_spec (h : Th en w T) (hs : Hs T sb A) (hn : A.named.length ≤ 4000000000000) : Sp (f18_frames_Stack_This (pt (some sb))) w T fun r _ T' => r = A.this.1 ∧ Hs T' sb A.this.2 := by
  unfold f18_frames_Stack_This
  have C := Tr.refl h
  have hml : maxLen = 9223372036854775807 := by decide
  obtain ⟨hf, S, G, I, hA⟩ := hs
  have key := thisc_spec h I hA
  refine ok_tcall C key ?_
  rintro _ w1 T1 C ⟨cx', c, hext, I1, rfl, hc⟩
  refine ok_tcall C (nameH C.th hf I1 (hA.ext hext) hc hn) ?_
  rintro r w2 T2 C ⟨rfl, hs⟩
  exact ok_ret.2 ⟨T2, C, rfl, hs⟩
theorem sender_spec' (h : Th en w T) (hs : Hs T sb A) (hn : A.named.length ≤ 4000000000000) (x : Int) : Sp (f24_frames_Stack_Sender (pt (some sb)) x) w T fun r _ T' => r = (A.senderOf x).1 ∧ Hs T' sb (A.senderOf x).2 := by
  unfold f24_frames_Stack_Sender St.senderOf
  have C := Tr.refl h
  have hs0 := hs
  obtain ⟨hf, S, G, I, hA⟩ := hs
  refine ok_tcall C (of_spec C.th I x) ?_
  rintro r w1 T1 C ⟨rfl, ⟨k, c, h1, h2, h3, rfl⟩ | ⟨e, h1, h2, rfl⟩⟩
  · rw [h1]
    refine ok_false rfl ?_
    refine ok_tcall C (from_spec C.th I h3 h2) ?_
    rintro _ w2 T2 C ⟨cx', c', hext, I2, rfl, hc, _⟩
    refine ok_tcall C (nameH C.th hf I2 (hA.ext hext) hc hn) ?_
    rintro r w3 T3 C ⟨rfl, hs⟩
    exact ok_ret.2 ⟨T3, C, rfl, hs⟩
  · rw [h1]
    exact ok_true (by simpa using h2) (ok_ret.2 ⟨_, C, rfl, hs0⟩)
theorem alive_spec (h : Th en w T) (hs : Hs T sb A) (x : Int) : Sp (f23_frames_Stack_Alive (pt (some sb)) x) w T fun r _ T' => T' = T ∧ r = A.aliveOf x := by
  unfold f23_frames_Stack_Alive St.aliveOf
  have C := Tr.refl h
  obtain ⟨hf, S, G, I, hA⟩ := hs
  refine ok_tcall C (of_spec C.th I x) ?_
  rintro r w1 T1 C ⟨rfl, ⟨k, c, h1, h2, h3, rfl⟩ | ⟨e, h1, h2, rfl⟩⟩
  · rw [h1]; exact ok_ret.2 ⟨_, C, rfl, rfl⟩
  · rw [h1]; exact ok_ret.2 ⟨_, C, rfl, rfl⟩
theorem method_spec (h : Th en w T) (hs : Hs T sb A) (x : Int) : Sp (f25_frames_Stack_Method (pt (some sb)) x) w T fun r _ T' => T' = T ∧ r = A.methodOf x := by
  unfold f25_frames_Stack_Method St.methodOf
  have C := Tr.refl h
  obtain ⟨hf, S, G, I, hA⟩ := hs
  refine ok_tcall C (of_spec C.th I x) ?_
  rintro r w1 T1 C ⟨rfl, ⟨k, c, h1, h2, h3, rfl⟩ | ⟨e, h1, h2, rfl⟩⟩
  · rw [h1]
    obtain ⟨X, a, kc⟩ := I.ctx k c h3
    obtain ⟨a0, ha0, hal0⟩ := alive_lt h2
    have : a0 = a := by have := kc.act; rw [ha0, Option.some.injEq] at this; exact this
    subst this
    simp only
    rw [ha0]
    simp only
    refine ok_false rfl ?_
    refine ok_drfP ?_
    refine ok_tld C kc.ctx (x := pt X.page) rfl ?_
    cases hl : G.loc k with
    | none =>
      obtain ⟨g1, g2, _⟩ := kc.lone hal0 hl
      rw [g1]
      refine ok_false rfl ?_
      refine ok_drfP ?_
      refine ok_tld C kc.ctx (x := X.method) rfl ?_
      exact ok_ret.2 ⟨_, C, rfl, by rw [g2]⟩
    | some pi =>
      obtain ⟨p, i⟩ := pi
      obtain ⟨e1, e2⟩ := kc.framed p i hl
      obtain ⟨hp, hid⟩ := I.l2 k p i hl
      obtain ⟨P, fl, L, fb, cb, cl, F, Z⟩ := I.frAt hp hid ha0
      rw [e1]
      refine ok_true rfl ?_
      refine ok_tdraw C fun w2 C => ?_
      refine ok_drfP ?_
      refine ok_tld C kc.ctx (x := pt (some p)) (by rw [← e1]; rfl) ?_
      refine ok_drfP ?_
      refine ok_tld C Z.pg.page (x := P.frames) rfl ?_
      refine ok_drfP ?_
      refine ok_tld C kc.ctx (x := (i : Int)) (by rw [← e2]; rfl) ?_
      refine ok_ixN Z.fa (by omega) (by have := Z.pg.frames.len; have := get_lt Z.fi; omega) ?_
      rw [Int.toNat_natCast]
      refine ok_tld C Z.at_ (x := F.method) (rd_fr Z.f (by decide) rfl) ?_
      exact ok_ret.2 ⟨_, C, rfl, by rw [Z.fr.method]⟩
  · rw [h1]
    exact ok_true (by simpa using h2) (ok_ret.2 ⟨_, C, rfl, rfl⟩)
theorem switch_spec (h : Th en w T) (hs : Hs T sb A) (x : Int) : Sp (f27_frames_Stack_Switch (pt (some sb)) x) w T fun r _ T' => r = (A.switch x).1 ∧ Hs T' sb (A.switch x).2 := by
  unfold f27_frames_Stack_Switch St.switch
  have C := Tr.refl h
  have hs0 := hs
  obtain ⟨hf, S, G, I, hA⟩ := hs
  by_cases h0 : x = 0
  · rw [if_pos h0]
    refine ok_true (by simpa using h0) ?_
    refine ok_tcall C (activate_none C.th I) ?_
    rintro _ w1 T1 C ⟨S1, I1, A1⟩
    exact ok_ret.2 ⟨T1, C, rfl, hs_on hf.fit0 I1 A1⟩
  · rw [if_neg h0]
    refine ok_false (by simpa using h0) ?_
    refine ok_tcall C (of_spec C.th I x) ?_
    rintro r w1 T1 C ⟨rfl, ⟨k, c, h1, h2, h3, rfl⟩ | ⟨e, h1, h2, rfl⟩⟩
    · rw [h1]
      refine ok_bnd.2 (ok_true rfl ?_)
      refine ok_tcall C (activate_some C.th I h3 h2) ?_
      rintro _ w2 T2 C ⟨S1, G1, p, k1, k2, I1, hp, t1, t2, hlast⟩
      exact ok_ret.2 (ok_ret.2 ⟨T2, C, rfl, hs_on hf.fit0 I1 (acv_top t1 t2 (by rw [k1]; exact hp) h2 hlast)⟩)
    · rw [h1]
      exact ok_bnd.2 (ok_false (by simpa using h2) (ok_ret.2 (ok_ret.2 ⟨_, C, rfl, hs0⟩)))
end Go.Proofs.Ytckfidopkajpaaa
