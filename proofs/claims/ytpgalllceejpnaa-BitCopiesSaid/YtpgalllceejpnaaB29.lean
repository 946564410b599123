/-
  Part of the proof: B29
-/
import Derived.Test.YtpgalllceejpnaaB28
set_option linter.unusedSimpArgs false
set_option linter.unusedVariables false
namespace Go.Proofs.Ytpgalllceejpnaa
set_option linter.unusedVariables false
open Go.Sh Go.RowKit
set_option maxRecDepth 100000
def mk (i t : Int) : Int := IntKind.wrap .u32 (IntKind.wrap .i64 ((IntKind.wrap .i64 ((IntKind.wrap .i64 (i * (1000 : Int))) + t)) + (9000000 : Int)))
def bk (i t : Int) : Int := IntKind.wrap .u32 (IntKind.wrap .i64 ((IntKind.wrap .i64 ((IntKind.wrap .i64 ((IntKind.wrap .i64 ((-1 : Int) - i)) * (1000 : Int))) - t)) + (9000000 : Int)))
abbrev items (ss : List Sl) (ls : List (List Int)) : List It := List.zipWith (fun s l => It.own s (wds l)) ss ls
theorem items_get {ss : List Sl} {ls : List (List Int)} {i : Nat} {s : Sl} {l : List Int} (h1 : ss[i]? = some s) (h2 : ls[i]? = some l) : (items ss ls)[i]? = some (.own s (wds l)) := by
  simp [items, List.getElem?_zipWith, h1, h2]
theorem items_set {ss : List Sl} {ls : List (List Int)} {i : Nat} {s : Sl} (h1 : ss[i]? = some s) (x : List Int) : (items ss ls).set i (.own s (wds x)) = items ss (ls.set i x) := by
  refine List.ext_getElem? fun j => ?_
  simp only [items, List.getElem?_set, List.getElem?_zipWith, List.length_zipWith]
  by_cases hij : i = j
  · subst hij
    simp only [if_true]
    have hss : i < ss.length := by
      rcases Nat.lt_or_ge i ss.length with h | h
      · exact h
      · rw [List.getElem?_eq_none h] at h1; cases h1
    by_cases hl : i < ls.length
    · rw [if_pos (by omega), if_pos hl, h1]
    · rw [if_neg (by omega), if_neg hl, h1]
  · simp [hij]
theorem nth_lt {α : Type} {l : List α} {i : Nat} {x : α} (h : l[i]? = some x) : i < l.length := by
  rcases Nat.lt_or_ge i l.length with h' | h'
  · exact h'
  · rw [List.getElem?_eq_none h'] at h; cases h
/-- Same lengths. -/
def Like (a b : List (List Int)) : Prop := a.length = b.length ∧ ∀ (j : Nat) (x y : List Int), a[j]? = some x → b[j]? = some y → x.length = y.length
theorem Like.set {a b : List (List Int)} (h : Like a b) {i : Nat} {x y : List Int} (hx : a[i]? = some x) (hy : y.length = x.length) : Like (a.set i y) b := by
  refine ⟨by rw [List.length_set]; exact h.1, fun j u v hu hv => ?_⟩
  rw [List.getElem?_set] at hu
  split at hu
  · rename_i hij; subst hij
    split at hu
    · cases hu; rw [hy]; exact h.2 i x v hx hv
    · cases hu
  · exact h.2 j u v hu hv
theorem drop_cons {α : Type} {l : List α} {i : Nat} {x : α} (h : l[i]? = some x) : l.drop i = x :: l.drop (i + 1) := by
  have hi := nth_lt h
  rw [List.drop_eq_getElem_cons hi]
  rw [List.getElem?_eq_getElem hi] at h
  rw [Option.some.inj h]
/-- What is known of a list that has grown. -/
def Views (A : List It) (s : Sl) (l : List Int) (r : Sl) (x : List Int) : Prop := It.own r (wds x) ∈ A ∧ ((r.a = s.a ∧ r.cap = s.cap ∧ ∃ m, x = l ++ m) ∨ It.own s (wds l) ∈ A)
theorem Views.mono {A A' : List It} {s : Sl} {l : List Int} {r : Sl} {x : List Int} (h : Views A s l r x) (hs : ∀ y ∈ A, y ∈ A') : Views A' s l r x := ⟨hs _ h.1, h.2.imp id (hs _)⟩
def backs (i : Nat) (n : Nat) : List Int := (List.range n).map fun (t : Nat) => bk i t
set_option maxHeartbeats 1000000 in
theorem ownBits_spec (S : Nat → Prop) (w0 w : World) (v : Sl) (ss : List Sl) (ls : List (List Int)) (R : List It) (C : Cx S w0 w (.own v (ss.map slV) :: (items ss ls ++ R))) (hls : ss.length = ls.length) (hss : ss.length ≤ 1000) (hbig : ∀ (j : Nat) (l : List Int), ls[j]? = some l → l.length ≤ 4194304) :
    Ok (f52_palaverref00_ownBits v) w fun r w' => r = true ∧ Keep S w0 w' := by
  have hvl : v.len = ss.length := by have := (C.get (i := 0) rfl).1; simpa using this
  have book : ∀ {w' : World} {L : List It} {i : Nat} {s : Sl} {K : Sl → M (Int ⊕ Int ⊕ Bool)} {Q : (Int ⊕ Int ⊕ Bool) → World → Prop}, Cx S w0 w' (.own v (ss.map slV) :: L) → ss[i]? = some s → Ok (K s) w' Q → Ok (bnd (ix 1 v (i : Int)) fun p => bnd (ld .sl p) K) w' Q :=
    fun C hs hq => ok_getSl (C.arr (i := 0) rfl) (Int.natCast_nonneg _) (by rw [Int.toNat_natCast]; exact hs) hq
  unfold f52_palaverref00_ownBits
  refine ok_loop (fun (i : Int) w' => 0 ≤ i ∧ i ≤ ss.length ∧ ∃ ls', Like ls' ls ∧ (∀ (j : Nat) (l : List Int), (j : Int) < i → ls'[j]? = some l → ∀ t : Nat, t < l.length → l[t]? = some (mk j t)) ∧ Cx S w0 w' (.own v (ss.map slV) :: (items ss ls' ++ R)))
    (fun i _ => (ss.length - i).toNat) ?_ _ _ ⟨Int.le_refl _, by omega, ls, ⟨rfl, fun j x y h1 h2 => by rw [h1] at h2; cases h2; rfl⟩, fun j l h => by omega, C⟩
  clear C
  rintro i w1 ⟨hi0, hi1, ls', hlike, hmark, C⟩
  obtain ⟨n, rfl⟩ := Int.eq_ofNat_of_zero_le hi0
  by_cases hin : n < ss.length
  · -- marks
    refine ok_true (by rw [hvl]; simpa using hin) ?_
    obtain ⟨s, hs⟩ : ∃ s, ss[n]? = some s := ⟨_, List.getElem?_eq_getElem hin⟩
    refine ok_loop (fun (k : Int) w' => 0 ≤ k ∧ k ≤ s.len ∧ ∃ ls', Like ls' ls ∧ (∀ (j : Nat) (l : List Int), (j : Int) < n → ls'[j]? = some l → ∀ t : Nat, t < l.length → l[t]? = some (mk j t)) ∧ (∀ l, ls'[n]? = some l → ∀ t : Nat, (t : Int) < k → t < l.length → l[t]? = some (mk n t)) ∧ Cx S w0 w' (.own v (ss.map slV) :: (items ss ls' ++ R)))
      (fun k _ => (s.len - k).toNat) ?_ _ _ ⟨Int.le_refl _, by omega, ls', hlike, hmark, fun l _ t ht => by omega, C⟩
    clear C hmark hlike
    rintro k w2 ⟨hk0, hk1, ls2, hlike, hmark, hm2, C⟩
    obtain ⟨t, rfl⟩ := Int.eq_ofNat_of_zero_le hk0
    refine book C hs ?_
    obtain ⟨l, hl⟩ : ∃ l, ls2[n]? = some l := ⟨_, List.getElem?_eq_getElem (by rw [hlike.1]; omega)⟩
    have hit : (It.own v (ss.map slV) :: (items ss ls2 ++ R))[n + 1]? = some (.own s (wds l)) := by
      rw [List.getElem?_cons_succ, List.getElem?_append_left (by simp [items, hlike.1]; omega)]
      exact items_get hs hl
    have hsl : s.len = l.length := by have := (C.get hit).1; simpa using this
    obtain ⟨l0, hl0⟩ : ∃ l0, ls[n]? = some l0 := ⟨_, List.getElem?_eq_getElem (by omega)⟩
    have hb0 := hbig n l0 hl0
    have hll := hlike.2 n l l0 hl hl0
    by_cases hts : t < s.len
    · refine ok_true (by simpa using hts) ?_
      refine book C hs ?_
      obtain ⟨b, hb⟩ := own_block (k := .u32) (C.get hit) (n := t) (by omega)
      refine ok_ixO hb hk0 (by omega) ?_
      rw [Int.toNat_natCast]
      refine ok_wrO C hit hb (by omega) fun w3 C => ok_ret.2 ?_
      rw [wrapI_in (n := (t : Int) + 1) (by omega)]
      refine ⟨⟨by omega, by omega, ls2.set n (l.set t (mk n t)), hlike.set hl (by simp), ?_, ?_, ?_⟩, by omega⟩
      · intro j x hj hx
        rw [List.getElem?_set, if_neg (by omega)] at hx
        exact hmark j x hj hx
      · intro x hx u hu hux
        rw [List.getElem?_set, if_pos rfl, if_pos (nth_lt hl)] at hx
        cases hx
        rw [List.getElem?_set]
        simp only [List.length_set] at hux
        by_cases htu : t = u
        · subst htu; rw [if_pos rfl, if_pos hux]
        · rw [if_neg htu]; exact hm2 l hl u (by omega) hux
      · have e : (It.own v (ss.map slV) :: (items ss ls2 ++ R)).set (n + 1) (.own s (wds (l.set t (mk n t)))) = It.own v (ss.map slV) :: (items ss (ls2.set n (l.set t (mk n t))) ++ R) := by
          rw [List.set_cons_succ, List.set_append_left _ _ (by simp [items, hlike.1]; omega), items_set hs]
        rw [← e]
        exact C
    · refine ok_false (by simpa using hts) (ok_ret.2 ?_)
      rw [wrapI_in (n := (n : Int) + 1) (by omega)]
      refine ⟨⟨by omega, by omega, ls2, hlike, fun j x hj hx u hu => ?_, C⟩, by omega⟩
      by_cases hjn : (j : Int) < n
      · exact hmark j x hjn hx u hu
      · have : j = n := by omega
        subst this
        rw [hl] at hx; cases hx
        exact hm2 l hl u (by omega) hu
  · have hnl : n = ss.length := by omega
    subst hnl
    refine ok_false (by rw [hvl]; simp) (ok_bnd.2 ?_)
    -- grow
    have hmark : ∀ (j : Nat) (l : List Int), ls'[j]? = some l → ∀ t : Nat, t < l.length → l[t]? = some (mk j t) := fun j l hl t ht => hmark j l (by have := nth_lt hl; rw [hlike.1] at this; omega) hl t ht
    have hbig' : ∀ (j : Nat) (l : List Int), ls'[j]? = some l → l.length ≤ 4194304 := fun j l hl => by
      obtain ⟨l0, hl0⟩ : ∃ l0, ls[j]? = some l0 := ⟨_, List.getElem?_eq_getElem (by have := nth_lt hl; rw [hlike.1] at this; exact this)⟩
      rw [hlike.2 j l l0 hl hl0]; exact hbig j l0 hl0
    have hsl : ∀ (j : Nat) (s : Sl) (l : List Int), ss[j]? = some s → ls'[j]? = some l → s.len = l.length ∧ s.len ≤ s.cap := fun j s l hs hl => by
      have hit : (It.own v (ss.map slV) :: (items ss ls' ++ R))[j + 1]? = some (.own s (wds l)) := by
        rw [List.getElem?_cons_succ, List.getElem?_append_left (by simp [items, hlike.1]; have := nth_lt hs; omega)]
        exact items_get hs hl
      have O := C.get hit
      exact ⟨by have := O.1; simpa using this, O.2.1⟩
    have hls' : ls'.length = ss.length := by rw [hlike.1, hls]
    refine ok_mono (Q := fun (r : Bool) w' => r = true ∧ Keep S w0 w') ?_ (fun r w' h => ok_ret.2 h)
    refine ok_loop (fun (s8 : Sl × Int) w' => 0 ≤ s8.2 ∧ s8.2 ≤ ss.length ∧ ∃ (A : List It) (rs : List Sl), (rs.length : Int) = s8.2 ∧
        (∀ (j : Nat) (s r : Sl) (l : List Int), rs[j]? = some r → ss[j]? = some s → ls'[j]? = some l → Views A s l r (l ++ backs j 16)) ∧
        Cx S w0 w' (.own s8.1 (rs.map slV) :: .own v (ss.map slV) :: (items (ss.drop s8.2.toNat) (ls'.drop s8.2.toNat) ++ (A ++ R))))
      (fun s8 _ => (ss.length - s8.2).toNat) ?_ _ _ ⟨Int.le_refl _, by show (0 : Int) ≤ _; omega, [], [], rfl, fun j s r l h => by simp at h, by
        have := C.addNil
        simpa using this⟩
    clear C
    rintro ⟨lg, i⟩ w2 ⟨hi0, hi1, A, rs, hrs, hV, C⟩
    simp only at hi0 hi1 hrs hV C ⊢
    obtain ⟨n, rfl⟩ := Int.eq_ofNat_of_zero_le hi0
    rw [Int.toNat_natCast] at C
    by_cases hin : n < ss.length
    · refine ok_true (by rw [hvl]; simpa using hin) ?_
      obtain ⟨s, hs⟩ : ∃ s, ss[n]? = some s := ⟨_, List.getElem?_eq_getElem hin⟩
      obtain ⟨l, hl⟩ : ∃ l, ls'[n]? = some l := ⟨_, List.getElem?_eq_getElem (by omega)⟩
      obtain ⟨h1, h2⟩ := hsl n s l hs hl
      have hlb := hbig' n l hl
      refine ok_getSl (C.arr (i := 1) rfl) (Int.natCast_nonneg _) (by rw [Int.toNat_natCast]; exact hs) ?_
      rw [drop_cons hs, drop_cons hl] at C
      obtain ⟨Rx, hRx⟩ : ∃ Rx, Rx = It.own lg (rs.map slV) :: .own v (ss.map slV) :: (items (ss.drop (n + 1)) (ls'.drop (n + 1)) ++ (A ++ R)) := ⟨_, rfl⟩
      have hC : St S w0 w2 s (wds l) s (wds (l ++ backs n 0)) Rx := by
        refine .inl ⟨rfl, rfl, ⟨[], by simp [backs]⟩, ?_⟩
        rw [hRx]
        have e : wds (l ++ backs n 0) = wds l := by simp [backs]
        rw [e]
        refine Cx.perm ?_ C
        show (It.own lg (rs.map slV) :: It.own v (ss.map slV) :: (It.own s (wds l) :: items (ss.drop (n + 1)) (ls'.drop (n + 1)) ++ (A ++ R))).Perm _
        exact (List.Perm.cons _ (List.Perm.swap _ _ _)).trans (List.Perm.swap _ _ _)
      refine ok_loop (fun (x : Sl × Int) w' => 0 ≤ x.2 ∧ x.2 ≤ 16 ∧ (x.1.len : Int) = l.length + x.2 ∧ St S w0 w' s (wds l) x.1 (wds (l ++ backs n x.2.toNat)) Rx) (fun x _ => (16 - x.2).toNat) ?_ _ _ ⟨Int.le_refl _, by show (0 : Int) ≤ 16; decide, by show (s.len : Int) = _ + 0; omega, hC⟩
      clear C hC
      rintro ⟨x, k⟩ w3 ⟨hk0, hk1, hxl, C⟩
      simp only at hk0 hk1 hxl C ⊢
      obtain ⟨t, rfl⟩ := Int.eq_ofNat_of_zero_le hk0
      rw [Int.toNat_natCast] at C
      by_cases ht : t < 16
      · refine ok_true (by simp; omega) ?_
        refine St.push slt C (by simpa using h1) h2 (wds_one _) (.int .u32 (bk n t)) rfl rfl (by omega) (by simp only [maxLen]; omega) fun r' w4 C' hr => ok_ret.2 ?_
        rw [wrapI_in (n := (t : Int) + 1) (by omega)]
        refine ⟨⟨by show (0 : Int) ≤ (t : Int) + 1; omega, by show (t : Int) + 1 ≤ 16; omega, by show (r'.len : Int) = l.length + ((t : Int) + 1); omega, ?_⟩, by show (16 - ((t : Int) + 1)).toNat < _; omega⟩
        show St S w0 w4 s (wds l) r' (wds (l ++ backs n ((t : Int) + 1).toNat)) Rx
        rw [show ((t : Int) + 1).toNat = t + 1 by omega]
        have e : wds (l ++ backs n (t + 1)) = wds (l ++ backs n t) ++ [.int .u32 (bk n t)] := by
          simp [backs, List.range_succ]
        rw [e]; exact C'
      · have : t = 16 := by omega
        subst this
        refine ok_false (by simp) (ok_bnd.2 ?_)
        have hRl : rs.length = n := by omega
        have hlgl : ∀ {w' : World} {L : List It} {i : Nat}, Cx S w0 w' L → L[i]? = some (.own lg (rs.map slV)) → lg.len = n := fun C hi => by have := (C.get hi).1; simp only [List.length_map] at this; omega
        -- both ways
        have fin : ∀ (r' : Sl) (w4 : World) (B : List It), Views B s l x (l ++ backs n 16) → Cx S w0 w4 (B ++ (.own r' ((rs ++ [x]).map slV) :: .own v (ss.map slV) :: (items (ss.drop (n + 1)) (ls'.drop (n + 1)) ++ (A ++ R)))) →
            (0 ≤ IntKind.wrap .i64 ((n : Int) + 1) ∧ IntKind.wrap .i64 ((n : Int) + 1) ≤ ss.length ∧ ∃ (A : List It) (rs : List Sl), (rs.length : Int) = IntKind.wrap .i64 ((n : Int) + 1) ∧
              (∀ (j : Nat) (s r : Sl) (l : List Int), rs[j]? = some r → ss[j]? = some s → ls'[j]? = some l → Views A s l r (l ++ backs j 16)) ∧
              Cx S w0 w4 (.own r' (rs.map slV) :: .own v (ss.map slV) :: (items (ss.drop (IntKind.wrap .i64 ((n : Int) + 1)).toNat) (ls'.drop (IntKind.wrap .i64 ((n : Int) + 1)).toNat) ++ (A ++ R)))) ∧ (ss.length - IntKind.wrap .i64 ((n : Int) + 1)).toNat < (ss.length - (n : Int)).toNat := by
          intro r' w4 B hB C
          rw [wrapI_in (n := (n : Int) + 1) (by omega), show ((n : Int) + 1).toNat = n + 1 by omega]
          refine ⟨⟨by omega, by omega, B ++ A, rs ++ [x], by simp; omega, fun j s2 r2 l2 h1 h2 h3 => ?_, ?_⟩, by omega⟩
          · rcases Nat.lt_or_ge j n with hj | hj
            · rw [List.getElem?_append_left (by omega)] at h1
              exact (hV j s2 r2 l2 h1 h2 h3).mono fun y hy => List.mem_append_right _ hy
            · rw [List.getElem?_append_right (by omega)] at h1
              have hj0 : j - rs.length = 0 := by have := nth_lt h1; simp at this; omega
              have hjn : j = n := by omega
              subst hjn
              rw [hj0] at h1
              simp only [List.getElem?_cons_zero, Option.some.injEq] at h1
              subst h1
              rw [hs] at h2; cases h2
              rw [hl] at h3; cases h3
              exact hB.mono fun y hy => List.mem_append_left _ hy
          · refine Cx.perm ?_ C
            refine List.perm_append_comm.trans ?_
            show (It.own r' ((rs ++ [x]).map slV) :: It.own v (ss.map slV) :: (items (ss.drop (n + 1)) (ls'.drop (n + 1)) ++ (A ++ R)) ++ B).Perm _
            rw [List.cons_append, List.cons_append]
            refine List.Perm.cons _ (List.Perm.cons _ ?_)
            rw [List.append_assoc]
            refine List.Perm.append_left _ ?_
            refine List.perm_append_comm.trans ?_
            rw [List.append_assoc]
        rw [hRx] at C
        rcases C with ⟨ha, hc, hm, C⟩ | C
        · have hl0 := hlgl C (i := 1) rfl
          refine ok_push1 slt46 C (i := 1) rfl (slV_one _) (slV x) rfl rfl (by omega) (by simp only [maxLen]; omega) fun r' w4 C hr => ok_ret.2 (ok_ret.2 ?_)
          refine fin r' w4 [.own x (wds (l ++ backs n 16))] ⟨by simp, .inl ⟨ha, hc, _, rfl⟩⟩ ?_
          rw [List.map_append]
          exact C
        · have hl0 := hlgl C (i := 2) rfl
          refine ok_push1 slt46 C (i := 2) rfl (slV_one _) (slV x) rfl rfl (by omega) (by simp only [maxLen]; omega) fun r' w4 C hr => ok_ret.2 (ok_ret.2 ?_)
          refine fin r' w4 [.own x (wds (l ++ backs n 16)), .own s (wds l)] ⟨by simp, .inr (by simp)⟩ ?_
          rw [List.map_append]
          exact C
    · have hnl : n = ss.length := by omega
      subst hnl
      refine ok_false (by rw [hvl]; simp) (ok_bnd.2 ?_)
      -- look
      have hrl : rs.length = ss.length := by omega
      have hin1 : It.own v (ss.map slV) ∈ (It.own lg (rs.map slV) :: .own v (ss.map slV) :: (items (ss.drop ss.length) (ls'.drop ss.length) ++ (A ++ R))) := by simp
      have vA : Arr w2.heap.size w2 v (ss.map slV) := own_arr (C.held _ hin1)
      have gA : Arr w2.heap.size w2 lg (rs.map slV) := C.arr (i := 0) rfl
      have sA : ∀ (j : Nat) (s r : Sl) (l : List Int), rs[j]? = some r → ss[j]? = some s → ls'[j]? = some l → Arr w2.heap.size w2 s (wds l) ∧ Arr w2.heap.size w2 r (wds (l ++ backs j 16)) := by
        intro j s r l h1 h2 h3
        obtain ⟨v1, v2⟩ := hV j s r l h1 h2 h3
        have O := C.held _ (show It.own r (wds (l ++ backs j 16)) ∈ (It.own lg (rs.map slV) :: .own v (ss.map slV) :: (items (ss.drop ss.length) (ls'.drop ss.length) ++ (A ++ R))) from List.mem_cons_of_mem _ (List.mem_cons_of_mem _ (List.mem_append_right _ (List.mem_append_left _ v1))))
        refine ⟨?_, own_arr O⟩
        rcases v2 with ⟨ha, hc, m, hm⟩ | h
        · obtain ⟨q1, q2⟩ := hsl j s l h2 h3
          exact own_arr (own_view O (ys := wds l) (m := wds m) (by rw [hm]; simp) ha hc (by simpa using q1) q2)
        · exact own_arr (C.held _ (show It.own s (wds l) ∈ (It.own lg (rs.map slV) :: .own v (ss.map slV) :: (items (ss.drop ss.length) (ls'.drop ss.length) ++ (A ++ R))) from List.mem_cons_of_mem _ (List.mem_cons_of_mem _ (List.mem_append_right _ (List.mem_append_left _ h)))))
      have hkeep := C.keep
      clear C
      refine ok_mono (Q := fun (r : Bool) w' => r = true ∧ Keep S w0 w') ?_ (fun r w' h => ok_ret.2 h)
      refine ok_loop (fun (j : Int) w' => w' = w2 ∧ 0 ≤ j ∧ j ≤ ss.length) (fun j _ => (ss.length - j).toNat) ?_ _ _ ⟨rfl, Int.le_refl _, by omega⟩
      rintro j w3 ⟨rfl, hj0, hj1⟩
      obtain ⟨m, rfl⟩ := Int.eq_ofNat_of_zero_le hj0
      by_cases hm : m < ss.length
      rotate_left
      · exact ok_false (by rw [hvl]; simpa using hm) (ok_ret.2 ⟨rfl, hkeep⟩)
      refine ok_true (by rw [hvl]; simpa using hm) ?_
      obtain ⟨s, hs⟩ : ∃ s, ss[m]? = some s := ⟨_, List.getElem?_eq_getElem hm⟩
      obtain ⟨l, hl⟩ : ∃ l, ls'[m]? = some l := ⟨_, List.getElem?_eq_getElem (by omega)⟩
      obtain ⟨r, hr⟩ : ∃ r, rs[m]? = some r := ⟨_, List.getElem?_eq_getElem (by omega)⟩
      obtain ⟨a1, a2⟩ := sA m s r l hr hs hl
      obtain ⟨h1, h2⟩ := hsl m s l hs hl
      have hlb := hbig' m l hl
      have hmk := hmark m l hl
      refine ok_getSl vA (Int.natCast_nonneg _) (by rw [Int.toNat_natCast]; exact hs) ?_
      refine ok_loop (fun (k : Int) w' => w' = w3 ∧ 0 ≤ k ∧ k ≤ l.length) (fun k _ => (l.length - k).toNat) ?_ _ _ ⟨rfl, Int.le_refl _, by omega⟩
      rintro k w4 ⟨rfl, hk0, hk1⟩
      obtain ⟨t, rfl⟩ := Int.eq_ofNat_of_zero_le hk0
      by_cases ht : t < l.length
      · refine ok_true (by rw [h1]; simpa using ht) ?_
        refine ok_getSl vA (Int.natCast_nonneg _) (by rw [Int.toNat_natCast]; exact hs) ?_
        refine ok_get a1 (Int.natCast_nonneg _) (by rw [Int.toNat_natCast]; exact hmk t ht) ?_
        refine ok_bnd.2 (ok_false (by simp [mk]) ?_)
        refine ok_getSl gA (Int.natCast_nonneg _) (by rw [Int.toNat_natCast]; exact hr) ?_
        refine ok_get a2 (Int.natCast_nonneg _) (n := mk m t) (by rw [Int.toNat_natCast, List.getElem?_append_left ht]; exact hmk t ht) (ok_ret.2 ?_)
        refine ok_false (by simp [mk]) (ok_ret.2 ?_)
        rw [wrapI_in (n := (t : Int) + 1) (by omega)]
        exact ⟨⟨rfl, by omega, by omega⟩, by omega⟩
      · have : t = l.length := by omega
        subst this
        refine ok_false (by rw [h1]; simp) (ok_bnd.2 ?_)
        refine ok_mono (Q := fun r w' => r = .inl (IntKind.wrap .i64 ((m : Int) + 1)) ∧ w' = w4) ?_ (fun r w' h => by
          obtain ⟨rfl, rfl⟩ := h
          refine ok_ret.2 ?_
          show (_ ∧ _) ∧ _
          rw [wrapI_in (n := (m : Int) + 1) (by omega)]
          exact ⟨⟨rfl, by omega, by omega⟩, by omega⟩)
        refine ok_loop (fun (q : Int) w' => w' = w4 ∧ 0 ≤ q ∧ q ≤ 16) (fun q _ => (16 - q).toNat) ?_ _ _ ⟨rfl, Int.le_refl _, by decide⟩
        rintro q w5 ⟨rfl, hq0, hq1⟩
        obtain ⟨u, rfl⟩ := Int.eq_ofNat_of_zero_le hq0
        by_cases hu : u < 16
        · refine ok_true (by simp; omega) ?_
          refine ok_getSl gA (Int.natCast_nonneg _) (by rw [Int.toNat_natCast]; exact hr) ?_
          rw [wrapI_in (n := (s.len : Int) + u) (by omega)]
          refine ok_get a2 (by omega) (n := bk m u) (by
            rw [h1, show ((l.length : Int) + u).toNat = l.length + u by omega, List.getElem?_append_right (by omega), Nat.add_sub_cancel_left]
            simp [backs, hu]) ?_
          refine ok_false (by simp [bk]) (ok_ret.2 ?_)
          rw [wrapI_in (n := (u : Int) + 1) (by omega)]
          exact ⟨⟨rfl, by omega, by omega⟩, by omega⟩
        · exact ok_false (by simp; omega) (ok_ret.2 ⟨rfl, rfl⟩)
end Go.Proofs.Ytpgalllceejpnaa
