/-
  Parts of the proof: RD, RE. It states what the functions do; no further condition.
-/
import Derived.Test.YtckfidopkajpaaaRC
set_option linter.unusedVariables false
set_option linter.unusedSimpArgs false
/-
  The reference: Push, Pop, back, Return.
-/
namespace Go.Proofs.Ytckfidopkajpaaa
set_option linter.unusedVariables false
open Go.Sh Go.RowKit
set_option maxRecDepth 100000
section
variable {w0 w : World} {T0 T : Rp} {sb : Nat} {S : Rk} {L L' : List Ra} {A : St} {k b : Nat} {r : Ra} {α β : Type} {Q : α → World → Prop}
theorem rpush_spec (h : Th ren w T) (hact : ∀ k, A.active = some k → A.alive k = true) (I : RInv T sb S L A) (v : Int) : Sr (f41_palaverref23_Stack_Push (pt (some sb)) v) w T fun r _ T' => r = (A.push v).1 ∧ Rs T' sb (A.push v).2 := by
  unfold f41_palaverref23_Stack_Push St.push
  have hml : maxLen = 9223372036854775807 := by decide
  have C := Tr.refl h
  have hac := I.active
  refine ok_drfP ?_
  refine ok_tld C I.stk (x := S.active) rfl ?_
  rcases act_of hact with ⟨h1, h2⟩ | ⟨k, a, h1, hk, hal, h2⟩
  · rw [h2]
    exact ok_true (by rw [hac, h1]; rfl) (ok_ret.2 ⟨T, C, rfl, S, L, I⟩)
  rw [h2]
  rw [h1] at hac
  have hac : S.active = (k : Int) := hac
  refine ok_false (by rw [hac]; simp) ?_
  refine ok_tdraw C fun w1 C => ?_
  obtain ⟨r, b, L', hr, at_, ra, h4, h3⟩ := I.at hk
  obtain ⟨hsm, hsl⟩ := I.small k a hk
  refine ok_drfP ?_
  refine ok_tld C I.stk (x := S.all) rfl ?_
  refine ok_drfP ?_
  refine ok_tld C I.stk (x := S.active) rfl ?_
  refine ok_rix at_ hac ?_
  refine ok_tdraw C fun w2 C => ?_
  refine ok_rld C at_ (x := r.stack) (by decide) rfl ?_
  refine ok_rld C at_ (x := r.room) (by decide) rfl ?_
  have hlen := ra.stack.len
  have hroom := ra.room
  simp only
  by_cases hx : a.room ≤ a.stack.length
  · rw [if_pos hx]
    exact ok_true (by rw [hlen, hroom]; simpa using hx) (ok_ret.2 ⟨T, C, rfl, S, L, I⟩)
  rw [if_neg hx]
  refine ok_false (by rw [hlen, hroom]; simp only [ge_iff_le, decide_eq_false_iff_not]; omega) ?_
  refine ok_rld C at_ (x := r.stack) (by decide) rfl ?_
  refine ok_bnd.2 (ok_build1R row22 (by decide) (F := v) (v := .int .i64 v) rfl ?_)
  have C1 := C.call ((Below.refl w2.heap.size w2).alloc (Nat.le_refl _) (.cells (iV v).toArray 2))
  have hnb : blk (w2.alloc (.cells (iV v).toArray 2)) w2.heap.size = some (iV v).toArray := by rw [blk_alloc, if_pos rfl]
  generalize w2.alloc (.cells (iV v).toArray 2) = w3 at C1 hnb
  have K : Src Try.prog 1 22 (.slice (some ⟨w2.heap.size, 0, none⟩) 1 1) 1 (([v] : List Int).flatMap iV) w3 := Src.ofSlice w3 row22.und ⟨w2.heap.size, 0, none⟩ 1 1 _ rfl (fun j u hj => by
    rw [addr_add, cell_blk hnb, Nat.zero_add, List.getElem?_toArray]; exact hj) (flat_one' row22.one)
  refine ok_appR C1 row22 (mk := Rb.ints k true) (fun _ => rfl) ra.stack K (by simp; omega) (by simp; omega) fun s2 w4 T2 C2 hs2 hT => ?_
  have keep : ∀ c o, T c = some o → (∀ t l, o ≠ .ints k t l) → T2 c = some o := fun c o hc hne => by
    rcases hT with ⟨_, _, h9⟩ | ⟨fb, M, rfl, hra, hfb⟩
    · cases h9
    rcases hfb with h0 | ⟨_, M0, hM⟩
    · exact rput_new hc h0
    · exact rput_other hc hM (hne _ _)
  have keep2 : ∀ c l, T c = some (.ints k false l) → T2 c = some (.ints k false l) := fun c l hc => by
    rcases hT with ⟨_, _, h9⟩ | ⟨fb, M, rfl, hra, hfb⟩
    · cases h9
    rcases hfb with h0 | ⟨_, M0, hM⟩
    · exact rput_new hc h0
    · exact rput_other hc hM (by simp)
  have at2 : RAt T2 S k r b L' := ⟨at_.a, keep _ _ at_.at_ (by simp), at_.get, at_.lt⟩
  refine ok_rwr C2 at2 { r with stack := s2 } (show 2 + 1 ≤ 7 by decide) rfl rfl fun w5 C3 => ?_
  refine ok_ret.2 ⟨_, C3, rfl, S, L.set k { r with stack := s2 }, ?_⟩
  exact I.rowPut (r' := { r with stack := s2 }) (a' := { a with stack := a.stack ++ [v] }) hk at_ h4 h3 keep
    ⟨ra.method, ra.room, ra.sender, ra.alive, ra.ctx, ra.slots.mono fun c l _ hc => keep2 _ _ hc, hs2⟩ rfl ⟨hsm, hsl⟩
theorem rpop_spec (h : Th ren w T) (hact : ∀ k, A.active = some k → A.alive k = true) (I : RInv T sb S L A) : Sr (f42_palaverref23_Stack_Pop (pt (some sb))) w T fun r _ T' => r = A.pop.1 ∧ Rs T' sb A.pop.2 := by
  unfold f42_palaverref23_Stack_Pop St.pop
  have hml : maxLen = 9223372036854775807 := by decide
  have C := Tr.refl h
  have hac := I.active
  refine ok_drfP ?_
  refine ok_tld C I.stk (x := S.active) rfl ?_
  rcases act_of hact with ⟨h1, h2⟩ | ⟨k, a, h1, hk, hal, h2⟩
  · rw [h2]
    exact ok_true (by rw [hac, h1]; rfl) (ok_ret.2 ⟨T, C, rfl, S, L, I⟩)
  rw [h2]
  rw [h1] at hac
  have hac : S.active = (k : Int) := hac
  refine ok_false (by rw [hac]; simp) ?_
  refine ok_tdraw C fun w1 C => ?_
  obtain ⟨r, b, L', hr, at_, ra, h4, h3⟩ := I.at hk
  refine ok_drfP ?_
  refine ok_tld C I.stk (x := S.all) rfl ?_
  refine ok_drfP ?_
  refine ok_tld C I.stk (x := S.active) rfl ?_
  refine ok_rix at_ hac ?_
  refine ok_rld C at_ (x := r.stack) (by decide) rfl ?_
  have hlen := ra.stack.len
  have hle := ra.stack.le
  have hmx := ra.stack.max
  simp only
  rcases List.eq_nil_or_concat a.stack with he | ⟨l, v, he⟩
  · rw [he]
    exact ok_true (by rw [hlen, he]; rfl) (ok_ret.2 ⟨T, C, rfl, S, L, I⟩)
  rw [List.concat_eq_append] at he
  rw [he, List.getLast?_append, List.getLast?_singleton]
  have hll : r.stack.len = l.length + 1 := by rw [hlen, he]; simp
  refine ok_false (by rw [hll]; simp; omega) ?_
  refine ok_rld C at_ (x := r.stack) (by decide) rfl ?_
  have e1 : IntKind.wrap .i64 ((r.stack.len : Int) - 1) = (l.length : Int) := by rw [wrapI_in (by omega)]; omega
  rw [e1]
  refine ok_rnum C ra.stack (i := l.length) (x := v) (by rw [he]; simp) rfl ?_
  refine ok_rld C at_ (x := r.stack) (by decide) rfl ?_
  refine ok_slcP (by omega) ?_
  refine ok_rwr C at_ { r with stack := ⟨r.stack.a, l.length, r.stack.cap⟩ } (show 2 + 1 ≤ 7 by decide) rfl rfl fun w5 C3 => ?_
  refine ok_ret.2 ⟨_, C3, by simp, S, L.set k { r with stack := ⟨r.stack.a, l.length, r.stack.cap⟩ }, ?_⟩
  have ht := ra.stack.take l.length (by rw [he]; simp)
  rw [he, List.take_left'  rfl] at ht
  have e3 : (l ++ [v]).dropLast = l := by simp
  simp only [Option.some_or, e3]
  exact I.rowPut (r' := { r with stack := ⟨r.stack.a, l.length, r.stack.cap⟩ }) (a' := { a with stack := l }) hk at_ h4 h3 (fun _ _ h _ => h)
    ⟨ra.method, ra.room, ra.sender, ra.alive, ra.ctx, ra.slots, ht⟩ rfl (I.small k a hk)
theorem Rs.on (hs : Rs T sb A) (e : Option Nat) (C : Tr ren w0 T0 w T) {v : Int} (hv : v = enum e) {f : Unit → M α} (hq : ∀ w' T', Tr ren w0 T0 w' T' → Rs T' sb (A.on e) → Ok (f ()) w' Q) : Ok (bnd (drf (pt (some sb))) fun p => bnd (wrs (Addr.add p 3) 0 [.int .i64 v]) f) w Q := by
  obtain ⟨S, L, I⟩ := hs
  subst hv
  refine ok_drfP ?_
  exact ok_twr C (.stk { S with active := enum e }) I.stk (by simp [ren, Rk.en]) rfl rfl fun w1 C => hq w1 _ C ⟨_, L, I.on e⟩
theorem rback_spec (h : Th ren w T) (hs : Rs T sb A) (to : Option Nat) (hto : ∀ j, to = some j → A.alive j = true) (v : Int) {n : Int} (hn : n = enum to) : Sr (f75_palaverref23_Stack_back (pt (some sb)) n v) w T fun r _ T' => r = (A.back to v).1 ∧ Rs T' sb (A.back to v).2 := by
  unfold f75_palaverref23_Stack_back
  have C := Tr.refl h
  subst hn
  refine hs.on to C rfl fun w1 T1 C hs1 => ?_
  refine ok_tdraw C fun w2 C => ?_
  have hact : ∀ k, (A.on to).active = some k → (A.on to).alive k = true := fun k hk => hto k hk
  obtain ⟨S, L, I⟩ := hs1
  have key : Ok (f41_palaverref23_Stack_Push (pt (some sb)) v) w2 fun r w' => ∃ T', Tr ren w T w' T' ∧ r = ((A.on to).push v).1 ∧ Rs T' sb ((A.on to).push v).2 := by
    refine ok_mono (rpush_spec C.th hact I v) ?_
    rintro r w' ⟨T', C', h1, h2⟩
    exact ⟨T', C.trans C', h1, h2⟩
  -- whether there is room
  refine ok_bnd.2 (ok_mono (Q := fun b w' => b = decide (((A.on to).push v).1 ≠ 0) ∧ w' = w2) ?_ ?_)
  · cases to with
    | none =>
      have : ((A.on none).push v).1 = 231 := rfl
      refine ok_true rfl (ok_ret.2 ⟨by rw [this]; rfl, rfl⟩)
    | some k =>
      obtain ⟨a, hk, hal⟩ := alive_lt (hto k rfl)
      obtain ⟨r, b, L', hr, at_, ra, h4, h3⟩ := I.at (k := k) (a := a) hk
      refine ok_false (decide_eq_false fun h => by have := enum_neg.1 h; cases this) ?_
      refine ok_drfP ?_
      refine ok_tld C I.stk (x := S.all) rfl ?_
      refine ok_rix at_ rfl ?_
      refine ok_rld C at_ (x := r.stack) (by decide) rfl ?_
      refine ok_drfP ?_
      refine ok_tld C I.stk (x := S.all) rfl ?_
      refine ok_rix at_ rfl ?_
      refine ok_rld C at_ (x := r.room) (by decide) rfl (ok_ret.2 ⟨?_, rfl⟩)
      have hp : ((A.on (some k)).push v).1 = if a.room ≤ a.stack.length then 236 else 0 := by
        unfold St.push
        have : (A.on (some k)).act = some (k, a) := by
          rcases act_of hact with ⟨g1, _⟩ | ⟨k', a', g1, g2, _, g4⟩
          · cases g1
          · have g1 : some k = some k' := g1
            rw [Option.some.injEq] at g1
            subst g1
            have g2 : A.acts[k]? = some a' := g2
            rw [hk, Option.some.injEq] at g2
            subst g2
            exact g4
        rw [this]
        simp only
        split <;> rfl
      rw [hp, ra.stack.len, ra.room]
      by_cases hx : a.room ≤ a.stack.length
      · simp [hx]
      · simp only [hx, if_false, ge_iff_le]; simp; omega
  rintro b w3 ⟨hb, e3⟩
  subst e3
  unfold St.back
  simp only
  by_cases h0 : ((A.on to).push v).1 = 0
  · rw [if_pos h0]
    refine ok_false (by rw [hb]; simpa using h0) ?_
    refine ok_bnd.2 (ok_mono key fun r w' hr => ok_ret.2 hr)
  · rw [if_neg h0]
    refine ok_true (by rw [hb]; simpa using h0) ?_
    have hs1 : Rs T1 sb (A.on to) := ⟨S, L, I⟩
    refine hs1.on none C rfl fun w4 T4 C hs4 => ?_
    exact ok_ret.2 ⟨T4, C, rfl, hs4⟩
theorem rret_spec (h : Th ren w T) (hf : A.Fit) (I : RInv T sb S L A) (v : Int) : Sr (f45_palaverref23_Stack_Return (pt (some sb)) v) w T fun r _ T' => r = (A.ret v).1 ∧ Rs T' sb (A.ret v).2 := by
  unfold f45_palaverref23_Stack_Return St.ret
  have C := Tr.refl h
  have hac := I.active
  refine ok_drfP ?_
  refine ok_tld C I.stk (x := S.active) rfl ?_
  cases h1 : A.active with
  | none =>
    rw [h1] at hac
    exact ok_true (by rw [hac]; rfl) (ok_ret.2 ⟨T, C, rfl, S, L, I⟩)
  | some k =>
    rw [h1] at hac
    have hac : S.active = (k : Int) := hac
    obtain ⟨a, hk, hal⟩ := alive_lt (hf.act k h1)
    refine ok_false (by rw [hac]; simp) ?_
    refine ok_drfP ?_
    refine ok_tld C I.stk (x := S.active) rfl ?_
    refine ok_rcall C (rsender_spec C.th hf.snd I hk hac) ?_
    rintro _ w1 T1 C ⟨rfl, rfl⟩
    refine ok_drfP ?_
    refine ok_tld C I.stk (x := S.active) rfl ?_
    refine ok_rcall C (rends_spec C.th I hk hal hac) ?_
    rintro _ w2 T2 C hs2
    refine ok_rcall C (rback_spec C.th hs2 (A.eff k) ?_ v rfl) ?_
    · intro j hj
      rw [die_alive_ne]
      · exact eff_alive hj
      · rintro rfl; exact no_loop hf.acy hj
    · rintro _ w3 T3 C ⟨rfl, hs3⟩
      exact ok_ret.2 ⟨T3, C, rfl, hs3⟩
end
end Go.Proofs.Ytckfidopkajpaaa

/-
  The reference: contexts named; This, Sender, Method, Alive, Slot, SetSlot, Lies, Switch.
-/
namespace Go.Proofs.Ytckfidopkajpaaa
set_option linter.unusedVariables false
open Go.Sh Go.RowKit
set_option maxRecDepth 100000
section
variable {w0 w : World} {T0 T : Rp} {sb : Nat} {S : Rk} {L L' : List Ra} {A : St} {k b : Nat} {r : Ra} {α β : Type} {Q : α → World → Prop}
theorem acts_lt {A : St} {k : Nat} {a : Ac} (h : A.acts[k]? = some a) : k < A.acts.length := by
  rcases Nat.lt_or_ge k A.acts.length with h' | h'
  · exact h'
  · rw [List.getElem?_eq_none h'] at h; cases h
theorem rname_spec (h : Th ren w T) (hnm : A.named.length ≤ 4000000000000) (I : RInv T sb S L A) {e : Option Nat} (he : ∀ k, e = some k → k < A.acts.length) {n : Int} (hn : n = enum e) : Sr (f76_palaverref23_Stack_name (pt (some sb)) n) w T fun r _ T' => r = (A.name e).1 ∧ Rs T' sb (A.name e).2 := by
  unfold f76_palaverref23_Stack_name
  have hml : maxLen = 9223372036854775807 := by decide
  have C := Tr.refl h
  subst hn
  cases e with
  | none => exact ok_true rfl (ok_ret.2 ⟨T, C, rfl, S, L, I⟩)
  | some k =>
    have hkl := he k rfl
    obtain ⟨a, hk⟩ : ∃ a, A.acts[k]? = some a := ⟨_, List.getElem?_eq_getElem hkl⟩
    obtain ⟨r, b, L', hr, at_, ra, h4, h3⟩ := I.at hk
    refine ok_false (decide_eq_false fun h => by have := enum_neg.1 h; cases this) ?_
    refine ok_drfP ?_
    refine ok_tld C I.stk (x := S.all) rfl ?_
    refine ok_rix at_ rfl ?_
    refine ok_rld C at_ (x := r.context) (by decide) rfl ?_
    have hctx := ra.ctx
    unfold St.name
    simp only
    by_cases hm : k ∈ A.named
    · have hz : ¬ A.num k = 0 := by unfold St.num; rw [if_pos hm]; omega
      rw [if_pos hm]
      refine ok_bnd.2 (ok_false (by rw [hctx]; simpa using hz) (ok_ret.2 ?_))
      refine ok_drfP ?_
      refine ok_tld C I.stk (x := S.all) rfl ?_
      refine ok_rix at_ rfl ?_
      refine ok_rld C at_ (x := r.context) (by decide) rfl ?_
      exact ok_ret.2 ⟨T, C, hctx, S, L, I⟩
    · have hz : A.num k = 0 := by unfold St.num; rw [if_neg hm]
      rw [if_neg hm]
      refine ok_bnd.2 (ok_true (by rw [hctx, hz]; rfl) ?_)
      refine ok_drfP ?_
      refine ok_tld C I.stk (x := S.named) rfl ?_
      refine ok_bnd.2 (ok_build1R row84 (by decide) (F := (k : Int)) (v := .int .i64 (k : Int)) rfl ?_)
      have C1 := C.call ((Below.refl w.heap.size w).alloc (Nat.le_refl _) (.cells (iV (k : Int)).toArray 3))
      have hnb : blk (w.alloc (.cells (iV (k : Int)).toArray 3)) w.heap.size = some (iV (k : Int)).toArray := by rw [blk_alloc, if_pos rfl]
      generalize w.alloc (.cells (iV (k : Int)).toArray 3) = w3 at C1 hnb
      have K : Src Try.prog 1 84 (.slice (some ⟨w.heap.size, 0, none⟩) 1 1) 1 (([(k : Int)] : List Int).flatMap iV) w3 := Src.ofSlice w3 row84.und ⟨w.heap.size, 0, none⟩ 1 1 _ rfl (fun j u hj => by
        rw [addr_add, cell_blk hnb, Nat.zero_add, List.getElem?_toArray]; exact hj) (flat_one' row84.one)
      refine ok_appR C1 row84 (mk := Rb.named) (fun _ => rfl) I.nmd K (by simp; omega) (by simp; omega) fun s2 w4 T2 C hs2 hT => ?_
      have keep : ∀ c o, T c = some o → (∀ l, o ≠ .named l) → T2 c = some o := fun c o hc hne => by
        rcases hT with ⟨_, _, h9⟩ | ⟨fb, M, rfl, hra, hfb⟩
        · cases h9
        rcases hfb with h0 | ⟨_, M0, hM⟩
        · exact rput_new hc h0
        · exact rput_other hc hM (hne _)
      clear hT K hnb C1
      have hst2 := keep _ _ I.stk (by simp)
      have hb2 := keep _ _ at_.at_ (by simp)
      refine ok_drfP ?_
      refine ok_twr C (.stk { S with named := s2 }) hst2 (by simp [ren, Rk.en]) rfl rfl fun w5 C => ?_
      simp only [bnd_as, bnd_ret]
      refine ok_tord C fun o w6 C => ?_
      refine ok_drfP ?_
      refine ok_tld C (put_eq _ _ _) (x := S.all) rfl ?_
      refine ok_drfP ?_
      refine ok_tld C (put_eq _ _ _) (x := s2) rfl ?_
      have hb3 : put T2 sb (.stk { S with named := s2 }) b = some (.rows L') := rput_other hb2 hst2 (by simp)
      have at3 : RAt (put T2 sb (.stk { S with named := s2 })) { S with named := s2 } k r b L' := ⟨at_.a, hb3, at_.get, at_.lt⟩
      refine ok_rix at3 rfl ?_
      have hl2 : s2.len = A.named.length + 1 := by rw [hs2.len]; simp
      refine ok_rwr C at3 { r with context := (s2.len : Int) } (show 6 + 1 ≤ 7 by decide) rfl rfl fun w7 C => ?_
      refine ok_ret.2 ?_
      refine ok_drfP ?_
      have hst4 : put (put T2 sb (.stk { S with named := s2 })) b (.rows (L'.set k { r with context := (s2.len : Int) })) sb = some (.stk { S with named := s2 }) := rput_other (put_eq _ _ _) hb3 (by simp)
      refine ok_tld C hst4 (x := S.all) rfl ?_
      have hlt : k < L'.length := by
        rcases Nat.lt_or_ge k L'.length with h | h
        · exact h
        · have := at_.get; rw [List.getElem?_eq_none h] at this; cases this
      have at4 : RAt (put (put T2 sb (.stk { S with named := s2 })) b (.rows (L'.set k { r with context := (s2.len : Int) }))) { S with named := s2 } k { r with context := (s2.len : Int) } b (L'.set k { r with context := (s2.len : Int) }) := ⟨at_.a, put_eq _ _ _, List.getElem?_set_self hlt, at_.lt⟩
      refine ok_rix at4 rfl ?_
      refine ok_rld C at4 (x := (s2.len : Int)) (by decide) rfl (ok_ret.2 ⟨_, C, by rw [hl2]; simp, { S with named := s2 }, L.set k { r with context := (s2.len : Int) }, ?_⟩)
      have keep4 : ∀ c o, T2 c = some o → (∀ l, o ≠ .rows l) → (∀ s, o ≠ .stk s) → put (put T2 sb (.stk { S with named := s2 })) b (.rows (L'.set k { r with context := (s2.len : Int) })) c = some o := fun c o hc n1 n2 =>
        rput_other (rput_other hc hst2 (n2 _)) hb3 (n1 _)
      have keepI : ∀ c j t l, T c = some (.ints j t l) → put (put T2 sb (.stk { S with named := s2 })) b (.rows (L'.set k { r with context := (s2.len : Int) })) c = some (.ints j t l) := fun c j t l hc => keep4 _ _ (keep _ _ hc (by simp)) (by simp) (by simp)
      refine { I with stk := hst4, active := I.active, all := ?_, len := by rw [List.length_set]; exact I.len, each := ?_, nmd := ?_, nlt := ?_ }
      · refine ⟨by rw [List.length_set]; exact I.all.len, I.all.le, I.all.max, .inr ⟨b, _, at_.a, put_eq _ _ _, by rw [List.length_set]; exact h3, ?_⟩⟩
        rw [List.length_set, List.take_set, h4]
      · intro j aj rj g1 g2
        by_cases ej : j = k
        · subst ej
          rw [List.getElem?_set_self (by rw [I.len]; exact hkl), Option.some.injEq] at g2
          subst g2
          have g1 : A.acts[j]? = some aj := g1
          rw [hk, Option.some.injEq] at g1
          subst g1
          have := ra.mono (A2 := A) (fun c t l hc => keepI c j t l hc) rfl
          exact ⟨this.method, this.room, this.sender, this.alive, by rw [name_num hm, if_pos rfl, hl2]; simp, this.slots, this.stack⟩
        · rw [List.getElem?_set_ne (Ne.symm ej)] at g2
          exact (I.each j aj rj g1 g2).mono (fun c t l hc => keepI c j t l hc) (by rw [name_num hm, if_neg ej])
      · show Rw _ Rb.named s2 ((A.named ++ [k]).map _)
        rw [List.map_append]
        exact hs2.mono fun c l _ hc => keep4 _ _ hc (by simp) (by simp)
      · intro j hj
        rcases List.mem_append.1 hj with hj | hj
        · exact I.nlt j hj
        · rw [List.mem_singleton] at hj; subst hj; exact hkl
theorem rthis_spec (h : Th ren w T) (hf : A.Fit) (hnm : A.named.length ≤ 4000000000000) (I : RInv T sb S L A) : Sr (f46_palaverref23_Stack_This (pt (some sb))) w T fun r _ T' => r = A.this.1 ∧ Rs T' sb A.this.2 := by
  unfold f46_palaverref23_Stack_This St.this
  have C := Tr.refl h
  refine ok_drfP ?_
  refine ok_tld C I.stk (x := S.active) rfl ?_
  refine ok_rcall C (rname_spec C.th hnm I (e := A.active) (fun k hk => acts_lt (alive_lt (hf.act k hk)).choose_spec.1) I.active) ?_
  rintro _ w1 T1 C ⟨rfl, hs⟩
  exact ok_ret.2 ⟨T1, C, rfl, hs⟩
theorem rsenderOf_spec (h : Th ren w T) (hf : A.Fit) (hnm : A.named.length ≤ 4000000000000) (I : RInv T sb S L A) (x : Int) : Sr (f47_palaverref23_Stack_Sender (pt (some sb)) x) w T fun r _ T' => r = (A.senderOf x).1 ∧ Rs T' sb (A.senderOf x).2 := by
  unfold f47_palaverref23_Stack_Sender St.senderOf
  have C := Tr.refl h
  refine ok_rcall C (rof_spec C.th hnm I x) ?_
  rintro r w1 T1 C ⟨rfl, ⟨k, a, h1, hk, hal, rfl⟩ | ⟨e, h1, h2, rfl⟩⟩
  rotate_left
  · rw [h1]
    exact ok_true (by simpa using h2) (ok_ret.2 ⟨_, C, rfl, S, L, I⟩)
  rw [h1]
  refine ok_false rfl ?_
  refine ok_rcall C (rsender_spec C.th hf.snd I hk rfl) ?_
  rintro _ w2 T2 C ⟨rfl, rfl⟩
  refine ok_rcall C (rname_spec C.th hnm I (e := A.eff k) (fun j hj => acts_lt (alive_lt (eff_alive hj)).choose_spec.1) rfl) ?_
  rintro _ w3 T3 C ⟨rfl, hs⟩
  exact ok_ret.2 ⟨T3, C, rfl, hs⟩
theorem rmethod_spec (h : Th ren w T) (hnm : A.named.length ≤ 4000000000000) (I : RInv T sb S L A) (x : Int) : Sr (f48_palaverref23_Stack_Method (pt (some sb)) x) w T fun r _ T' => T' = T ∧ r = A.methodOf x := by
  unfold f48_palaverref23_Stack_Method St.methodOf
  have C := Tr.refl h
  refine ok_rcall C (rof_spec C.th hnm I x) ?_
  rintro r w1 T1 C ⟨rfl, ⟨k, a, h1, hk, hal, rfl⟩ | ⟨e, h1, h2, rfl⟩⟩
  rotate_left
  · rw [h1]
    exact ok_true (by simpa using h2) (ok_ret.2 ⟨_, C, rfl, rfl⟩)
  rw [h1]
  simp only
  rw [hk]
  refine ok_false rfl ?_
  obtain ⟨r, b, L', hr, at_, ra, h4, h3⟩ := I.at hk
  refine ok_drfP ?_
  refine ok_tld C I.stk (x := S.all) rfl ?_
  refine ok_rix at_ rfl ?_
  refine ok_rld C at_ (x := r.method) (by decide) rfl (ok_ret.2 ⟨_, C, rfl, ?_⟩)
  rw [ra.method]
theorem ralive_spec (h : Th ren w T) (hnm : A.named.length ≤ 4000000000000) (I : RInv T sb S L A) (x : Int) : Sr (f58_palaverref23_Stack_Alive (pt (some sb)) x) w T fun r _ T' => T' = T ∧ r = A.aliveOf x := by
  unfold f58_palaverref23_Stack_Alive St.aliveOf
  have C := Tr.refl h
  refine ok_rcall C (rof_spec C.th hnm I x) ?_
  rintro r w1 T1 C ⟨rfl, ⟨k, a, h1, hk, hal, rfl⟩ | ⟨e, h1, h2, rfl⟩⟩
  · rw [h1]; exact ok_ret.2 ⟨_, C, rfl, rfl⟩
  · rw [h1]; exact ok_ret.2 ⟨_, C, rfl, rfl⟩
theorem rslot_spec (h : Th ren w T) (hnm : A.named.length ≤ 4000000000000) (I : RInv T sb S L A) (x i : Int) : Sr (f50_palaverref23_Stack_Slot (pt (some sb)) x i) w T fun r _ T' => T' = T ∧ r = A.slot x i := by
  unfold f50_palaverref23_Stack_Slot St.slot
  have C := Tr.refl h
  refine ok_rcall C (rof_spec C.th hnm I x) ?_
  rintro r w1 T1 C ⟨rfl, ⟨k, a, h1, hk, hal, rfl⟩ | ⟨e, h1, h2, rfl⟩⟩
  rotate_left
  · rw [h1]
    exact ok_true (by simpa using h2) (ok_ret.2 ⟨_, C, rfl, rfl⟩)
  rw [h1]
  simp only
  rw [hk]
  refine ok_false rfl ?_
  obtain ⟨r, b, L', hr, at_, ra, h4, h3⟩ := I.at hk
  refine ok_bnd.2 (ok_mono (Q := fun b w' => b = decide (i < 0 ∨ i ≥ a.slots.length) ∧ w' = w1) ?_ ?_)
  · by_cases hx : i < 0
    · exact ok_true (by simpa using hx) (ok_ret.2 ⟨by simp [hx], rfl⟩)
    · refine ok_false (by simpa using hx) ?_
      refine ok_drfP ?_
      refine ok_tld C I.stk (x := S.all) rfl ?_
      refine ok_rix at_ rfl ?_
      refine ok_rld C at_ (x := r.slots) (by decide) rfl (ok_ret.2 ⟨?_, rfl⟩)
      rw [ra.slots.len]; simp [hx]
  rintro b9 w2 ⟨hb, e2⟩
  subst e2
  simp only
  by_cases hx : i < 0 ∨ i ≥ a.slots.length
  · rw [if_pos hx]
    exact ok_true (by rw [hb]; simpa using hx) (ok_ret.2 ⟨_, C, rfl, rfl⟩)
  rw [if_neg hx]
  refine ok_false (by rw [hb]; simpa using hx) ?_
  refine ok_drfP ?_
  refine ok_tld C I.stk (x := S.all) rfl ?_
  refine ok_rix at_ rfl ?_
  refine ok_rld C at_ (x := r.slots) (by decide) rfl ?_
  have hlt : i.toNat < a.slots.length := by omega
  refine ok_rnum C ra.slots (List.getElem?_eq_getElem hlt) (by omega) (ok_ret.2 ⟨_, C, rfl, ?_⟩)
  rw [List.getD_eq_getElem?_getD, List.getElem?_eq_getElem hlt]; rfl
theorem rsetSlot_spec (h : Th ren w T) (hnm : A.named.length ≤ 4000000000000) (I : RInv T sb S L A) (x i v : Int) : Sr (f52_palaverref23_Stack_SetSlot (pt (some sb)) x i v) w T fun r _ T' => r = (A.setSlot x i v).1 ∧ Rs T' sb (A.setSlot x i v).2 := by
  unfold f52_palaverref23_Stack_SetSlot
  have C := Tr.refl h
  refine ok_rcall C (rslot_spec C.th hnm I x i) ?_
  rintro _ w1 T1 C ⟨rfl, rfl⟩
  refine ok_bnd.2 ?_
  by_cases hz : (A.slot x i).2 = 0
  rotate_left
  · refine ok_false (by simpa using hz) (ok_ret.2 (ok_ret.2 ⟨_, C, ?_⟩))
    unfold St.slot at hz ⊢
    unfold St.setSlot
    split
    · exact ⟨rfl, S, L, I⟩
    · rename_i k e h1
      rw [h1] at hz
      simp only at hz ⊢
      split
      · exact ⟨rfl, S, L, I⟩
      · rename_i a hk
        rw [hk] at hz
        simp only at hz ⊢
        split
        · exact ⟨rfl, S, L, I⟩
        · rename_i hx
          rw [if_neg hx] at hz
          exact absurd rfl hz
  refine ok_true (by simpa using hz) ?_
  refine ok_rcall C (rof_spec C.th hnm I x) ?_
  rintro r w1 T1 C ⟨rfl, ⟨k, a, h1, hk, hal, rfl⟩ | ⟨e, h1, h2, rfl⟩⟩
  rotate_left
  · unfold St.slot at hz
    rw [h1] at hz
    exact absurd hz h2
  obtain ⟨r, b, L', hr, at_, ra, h4, h3⟩ := I.at hk
  have hx : ¬ (i < 0 ∨ i ≥ a.slots.length) := by
    intro hx
    unfold St.slot at hz
    rw [h1] at hz
    simp only at hz
    rw [hk] at hz
    simp only at hz
    rw [if_pos hx] at hz
    cases hz
  have hs1 : A.slot x i = (a.slots.getD i.toNat 0, 0) := by
    unfold St.slot
    rw [h1]
    simp only
    rw [hk]
    simp only
    rw [if_neg hx]
  have hs2 : A.setSlot x i v = (0, A.turn k { a with slots := a.slots.set i.toNat v }) := by
    unfold St.setSlot
    rw [h1]
    simp only
    rw [hk]
    simp only
    rw [if_neg hx]
  rw [hs1, hs2]
  refine ok_drfP ?_
  refine ok_tld C I.stk (x := S.all) rfl ?_
  refine ok_rix at_ rfl ?_
  refine ok_rld C at_ (x := r.slots) (by decide) rfl ?_
  have hlt : i.toNat < a.slots.length := by omega
  refine ok_rnumW C ra.slots (List.getElem?_eq_getElem hlt) (n := i) (by omega) v fun fb M w3 hfb C hs => ?_
  refine ok_ret.2 (ok_ret.2 ⟨_, C, rfl, S, L, ?_⟩)
  refine I.listPut (a' := { a with slots := a.slots.set i.toNat v }) hk hr (fun c o hc hne => rput_other hc hfb (hne _ _)) ?_ rfl ⟨(I.small k a hk).1, by rw [List.length_set]; exact (I.small k a hk).2⟩
  exact { ra with slots := hs, stack := ra.stack.mono fun c l _ hc => rput_other hc hfb (by simp) }
theorem rlies_spec (h : Th ren w T) (hnm : A.named.length ≤ 4000000000000) (I : RInv T sb S L A) (x : Int) : Sr (f53_palaverref23_Stack_Lies (pt (some sb)) x) w T fun r _ T' => T' = T ∧ r.2 = (A.lies x).2 ∧ ∃ k, Rw T (Rb.ints k true) r.1 (A.lies x).1 := by
  unfold f53_palaverref23_Stack_Lies St.lies
  have C := Tr.refl h
  refine ok_rcall C (rof_spec C.th hnm I x) ?_
  rintro r w1 T1 C ⟨rfl, ⟨k, a, h1, hk, hal, rfl⟩ | ⟨e, h1, h2, rfl⟩⟩
  rotate_left
  · rw [h1]
    exact ok_true (by simpa using h2) (ok_ret.2 ⟨_, C, rfl, rfl, 0, rw_nil _ _⟩)
  rw [h1]
  simp only
  rw [hk]
  refine ok_false rfl ?_
  obtain ⟨r, b, L', hr, at_, ra, h4, h3⟩ := I.at hk
  refine ok_drfP ?_
  refine ok_tld C I.stk (x := S.all) rfl ?_
  refine ok_rix at_ rfl ?_
  exact ok_rld C at_ (x := r.stack) (by decide) rfl (ok_ret.2 ⟨_, C, rfl, rfl, k, ra.stack⟩)
theorem rswitch_spec (h : Th ren w T) (hnm : A.named.length ≤ 4000000000000) (I : RInv T sb S L A) (x : Int) : Sr (f55_palaverref23_Stack_Switch (pt (some sb)) x) w T fun r _ T' => r = (A.switch x).1 ∧ Rs T' sb (A.switch x).2 := by
  unfold f55_palaverref23_Stack_Switch St.switch
  have C := Tr.refl h
  by_cases hx : x = 0
  · rw [if_pos hx]
    refine ok_true (by simpa using hx) ?_
    have hs : Rs T sb A := ⟨S, L, I⟩
    exact hs.on none C rfl fun w1 T1 C hs1 => ok_ret.2 ⟨T1, C, rfl, hs1⟩
  rw [if_neg hx]
  refine ok_false (by simpa using hx) ?_
  refine ok_rcall C (rof_spec C.th hnm I x) ?_
  rintro r w1 T1 C ⟨rfl, ⟨k, a, h1, hk, hal, rfl⟩ | ⟨e, h1, h2, rfl⟩⟩
  · rw [h1]
    have hs : Rs T1 sb A := ⟨S, L, I⟩
    refine ok_bnd.2 (ok_true rfl ?_)
    exact hs.on (some k) C rfl fun w1 T1 C hs1 => ok_ret.2 (ok_ret.2 ⟨T1, C, rfl, hs1⟩)
  · rw [h1]
    exact ok_bnd.2 (ok_false (by simpa using h2) (ok_ret.2 (ok_ret.2 ⟨_, C, rfl, S, L, I⟩)))
end
end Go.Proofs.Ytckfidopkajpaaa
