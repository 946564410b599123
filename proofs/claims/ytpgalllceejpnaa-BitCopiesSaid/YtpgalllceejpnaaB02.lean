/-
  Part of the proof: B02
-/
import Derived.Test.YtpgalllceejpnaaB01
import Derived.Test.YtpgalllceejpnaaShM
set_option linter.unusedSimpArgs false
set_option linter.unusedVariables false
namespace Go.Proofs.Ytpgalllceejpnaa
set_option linter.unusedVariables false
open Go.Sh Go.RowKit
set_option maxRecDepth 100000
abbrev Form := (Int × (Int × (Int × (Sl))))
abbrev tForm : Ty := (.agg (.pair (.int .i64) (.pair (.int .i64) (.pair (.int .i64) .sl))))
def cellsForm (h : Form) : List Value := [.int .i64 h.1, .int .i64 h.2.1, .int .i64 h.2.2.1, .slice h.2.2.2.a h.2.2.2.len h.2.2.2.cap]
def HasForm (w : World) (b : Nat) (h : Form) : Prop := blk w b = some (cellsForm h).toArray ∧ fre w b = true
theorem hasForm_new (w : World) (h : Form) : HasForm (w.alloc (.cells (cellsForm h).toArray 24)) w.heap.size h :=
  ⟨by rw [blk_alloc, if_pos rfl], by rw [fre_alloc, if_pos rfl]⟩
theorem hasForm_below {B b : Nat} {w w' : World} {h : Form} (H : HasForm w b h) (k : Below B w w') (hb : b < B) : HasForm w' b h :=
  ⟨(Go.Sh.Below.blk k hb).trans H.1, (Go.Sh.Below.fre k hb).trans H.2⟩
theorem hasForm_size {b : Nat} {w w' : World} {h : Form} (H : HasForm w b h) (k : Below w.heap.size w w') : HasForm w' b h := hasForm_below H k (blk_lt H.1)
theorem hasForm_lt {b : Nat} {w : World} {h : Form} (H : HasForm w b h) : b < w.heap.size := blk_lt H.1
theorem hasForm_drew {b : Nat} {w : World} {h : Form} (H : HasForm w b h) : HasForm w.drew b h := ⟨(blk_drew w b).trans H.1, (fre_drew w b).trans H.2⟩
theorem hasForm_set {b b' : Nat} {w : World} {h : Form} {c d : Array Value} (H : HasForm w b h) (hd : blk w b' = some d) (hs : c.size = d.size) (hne : b ≠ b') : HasForm (World.setBlk w b' c) b h :=
  ⟨by rw [blk_setBlk _ _ _ _ hd, if_neg hne]; exact H.1, by rw [fre_setBlk _ _ _ _ hd hs]; exact H.2⟩
theorem ok_Form0 {w : World} {b : Nat} {h : Form} {Q : Int → World → Prop} (H : HasForm w b h) (hq : Q h.1 w) : Ok (ld (.int .i64) (Addr.add ⟨b, 0, none⟩ 0)) w Q := ok_ldA H.1 rfl hq
theorem okc_Form0 {w : World} {b : Nat} {h : Form} {Q : Unit → World → Prop} (H : HasForm w b h) (hq : Q () w) : Ok (chk (.int .i64) (Addr.add ⟨b, 0, none⟩ 0) h.1) w Q := ok_chkA H.1 rfl hq
theorem ok_Form1 {w : World} {b : Nat} {h : Form} {Q : Int → World → Prop} (H : HasForm w b h) (hq : Q h.2.1 w) : Ok (ld (.int .i64) (Addr.add ⟨b, 0, none⟩ 1)) w Q := ok_ldA H.1 rfl hq
theorem okc_Form1 {w : World} {b : Nat} {h : Form} {Q : Unit → World → Prop} (H : HasForm w b h) (hq : Q () w) : Ok (chk (.int .i64) (Addr.add ⟨b, 0, none⟩ 1) h.2.1) w Q := ok_chkA H.1 rfl hq
theorem ok_Form2 {w : World} {b : Nat} {h : Form} {Q : Int → World → Prop} (H : HasForm w b h) (hq : Q h.2.2.1 w) : Ok (ld (.int .i64) (Addr.add ⟨b, 0, none⟩ 2)) w Q := ok_ldA H.1 rfl hq
theorem okc_Form2 {w : World} {b : Nat} {h : Form} {Q : Unit → World → Prop} (H : HasForm w b h) (hq : Q () w) : Ok (chk (.int .i64) (Addr.add ⟨b, 0, none⟩ 2) h.2.2.1) w Q := ok_chkA H.1 rfl hq
theorem ok_Form3 {w : World} {b : Nat} {h : Form} {Q : Sl → World → Prop} (H : HasForm w b h) (hq : Q h.2.2.2 w) : Ok (ld .sl (Addr.add ⟨b, 0, none⟩ 3)) w Q := ok_ldA H.1 rfl hq
theorem okc_Form3 {w : World} {b : Nat} {h : Form} {Q : Unit → World → Prop} (H : HasForm w b h) (hq : Q () w) : Ok (chk .sl (Addr.add ⟨b, 0, none⟩ 3) h.2.2.2) w Q := ok_chkA H.1 rfl hq
theorem ok_Form {w : World} {b : Nat} {h : Form} {Q : Form → World → Prop} (H : HasForm w b h) (hq : Q h w) : Ok (ld tForm ⟨b, 0, none⟩) w Q := ok_ld H.1 rfl hq
theorem okc_Form {w : World} {b : Nat} {h : Form} {Q : Unit → World → Prop} (H : HasForm w b h) (hq : Q () w) : Ok (chk tForm ⟨b, 0, none⟩ h) w Q := ok_chk H.1 rfl hq
theorem ok_newForm {w : World} {h : Form} {Q : Addr → World → Prop} (hq : ∀ w', HasForm w' w.heap.size h → Below w.heap.size w w' → w'.heap.size = w.heap.size + 1 → Q ⟨w.heap.size, 0, none⟩ w') : Ok (newC 24 (cellsForm h)) w Q :=
  ok_newC.2 (hq _ (hasForm_new w h) ((Below.refl _ _).alloc (Nat.le_refl _) _) (by simp))
theorem ok_wrForm {w : World} {b : Nat} {h0 h : Form} {Q : Unit → World → Prop} (H : HasForm w b h0) (hq : ∀ w', HasForm w' b h → Below b w w' → w'.heap.size = w.heap.size → (∀ k, k ≠ b → blk w' k = blk w k ∧ fre w' k = fre w k) → Q () w') : Ok (wrs ⟨b, 0, none⟩ 0 (cellsForm h)) w Q := by
  refine ok_wrs H.1 H.2 (by simp [cellsForm]) (by simp [cellsForm, single]) (hq _ ⟨?_, ?_⟩ (below_setBlk (Below.refl _ _) (Nat.le_refl _) _) (size_setBlk _ _ _) ?_)
  · rw [blk_setBlk _ _ _ _ H.1, if_pos rfl, splice_all _ _ (by simp [cellsForm])]
  · rw [fre_setBlk _ _ _ _ H.1 (by simp [splice_size])]; exact H.2
  · intro k hk
    exact ⟨by rw [blk_setBlk _ _ _ _ H.1, if_neg hk], by rw [fre_setBlk _ _ _ _ H.1 (by simp [splice_size])]⟩
theorem ok_wrForm0 {w : World} {b : Nat} {h : Form} {x : Int} {Q : Unit → World → Prop} (H : HasForm w b h) (hq : ∀ w', HasForm w' b (x, h.2.1, h.2.2.1, h.2.2.2) → Below b w w' → w'.heap.size = w.heap.size → (∀ k, k ≠ b → blk w' k = blk w k ∧ fre w' k = fre w k) → Q () w') : Ok (wrs (Addr.add ⟨b, 0, none⟩ 0) 0 [.int .i64 x]) w Q := by
  have ha : (Addr.add ⟨b, 0, none⟩ 0) = ⟨b, 0, none⟩ := rfl
  rw [ha]
  refine ok_wrs H.1 H.2 (by simp [cellsForm]) (by simp [single]) (hq _ ⟨?_, ?_⟩ (below_setBlk (Below.refl _ _) (Nat.le_refl _) _) (size_setBlk _ _ _) ?_)
  · rw [blk_setBlk _ _ _ _ H.1, if_pos rfl]; rfl
  · rw [fre_setBlk _ _ _ _ H.1 (by simp [splice_size])]; exact H.2
  · intro k hk
    exact ⟨by rw [blk_setBlk _ _ _ _ H.1, if_neg hk], by rw [fre_setBlk _ _ _ _ H.1 (by simp [splice_size])]⟩
theorem ok_wrForm1 {w : World} {b : Nat} {h : Form} {x : Int} {Q : Unit → World → Prop} (H : HasForm w b h) (hq : ∀ w', HasForm w' b (h.1, x, h.2.2.1, h.2.2.2) → Below b w w' → w'.heap.size = w.heap.size → (∀ k, k ≠ b → blk w' k = blk w k ∧ fre w' k = fre w k) → Q () w') : Ok (wrs (Addr.add ⟨b, 0, none⟩ 1) 0 [.int .i64 x]) w Q := by
  have ha : (Addr.add ⟨b, 0, none⟩ 1) = ⟨b, 1, none⟩ := rfl
  rw [ha]
  refine ok_wrs H.1 H.2 (by simp [cellsForm]) (by simp [single]) (hq _ ⟨?_, ?_⟩ (below_setBlk (Below.refl _ _) (Nat.le_refl _) _) (size_setBlk _ _ _) ?_)
  · rw [blk_setBlk _ _ _ _ H.1, if_pos rfl]; rfl
  · rw [fre_setBlk _ _ _ _ H.1 (by simp [splice_size])]; exact H.2
  · intro k hk
    exact ⟨by rw [blk_setBlk _ _ _ _ H.1, if_neg hk], by rw [fre_setBlk _ _ _ _ H.1 (by simp [splice_size])]⟩
theorem ok_wrForm2 {w : World} {b : Nat} {h : Form} {x : Int} {Q : Unit → World → Prop} (H : HasForm w b h) (hq : ∀ w', HasForm w' b (h.1, h.2.1, x, h.2.2.2) → Below b w w' → w'.heap.size = w.heap.size → (∀ k, k ≠ b → blk w' k = blk w k ∧ fre w' k = fre w k) → Q () w') : Ok (wrs (Addr.add ⟨b, 0, none⟩ 2) 0 [.int .i64 x]) w Q := by
  have ha : (Addr.add ⟨b, 0, none⟩ 2) = ⟨b, 2, none⟩ := rfl
  rw [ha]
  refine ok_wrs H.1 H.2 (by simp [cellsForm]) (by simp [single]) (hq _ ⟨?_, ?_⟩ (below_setBlk (Below.refl _ _) (Nat.le_refl _) _) (size_setBlk _ _ _) ?_)
  · rw [blk_setBlk _ _ _ _ H.1, if_pos rfl]; rfl
  · rw [fre_setBlk _ _ _ _ H.1 (by simp [splice_size])]; exact H.2
  · intro k hk
    exact ⟨by rw [blk_setBlk _ _ _ _ H.1, if_neg hk], by rw [fre_setBlk _ _ _ _ H.1 (by simp [splice_size])]⟩
theorem ok_wrForm3 {w : World} {b : Nat} {h : Form} {x : Sl} {Q : Unit → World → Prop} (H : HasForm w b h) (hq : ∀ w', HasForm w' b (h.1, h.2.1, h.2.2.1, x) → Below b w w' → w'.heap.size = w.heap.size → (∀ k, k ≠ b → blk w' k = blk w k ∧ fre w' k = fre w k) → Q () w') : Ok (wrs (Addr.add ⟨b, 0, none⟩ 3) 0 [.slice x.a x.len x.cap]) w Q := by
  have ha : (Addr.add ⟨b, 0, none⟩ 3) = ⟨b, 3, none⟩ := rfl
  rw [ha]
  refine ok_wrs H.1 H.2 (by simp [cellsForm]) (by simp [single]) (hq _ ⟨?_, ?_⟩ (below_setBlk (Below.refl _ _) (Nat.le_refl _) _) (size_setBlk _ _ _) ?_)
  · rw [blk_setBlk _ _ _ _ H.1, if_pos rfl]; rfl
  · rw [fre_setBlk _ _ _ _ H.1 (by simp [splice_size])]; exact H.2
  · intro k hk
    exact ⟨by rw [blk_setBlk _ _ _ _ H.1, if_neg hk], by rw [fre_setBlk _ _ _ _ H.1 (by simp [splice_size])]⟩
abbrev Blit := (Int × (Int × (Int × (Int × (Int × (Int × (Int × (Int × (Int × (Int × (Int × (Sl))))))))))))
abbrev tBlit : Ty := (.agg (.pair (.int .i64) (.pair (.int .i64) (.pair (.int .i64) (.pair (.int .i64) (.pair (.int .i64) (.pair (.int .i64) (.pair (.int .i64) (.pair (.int .i64) (.pair (.int .i64) (.pair (.int .i64) (.pair (.int .i64) .sl))))))))))))
def cellsBlit (h : Blit) : List Value := [.int .i64 h.1, .int .i64 h.2.1, .int .i64 h.2.2.1, .int .i64 h.2.2.2.1, .int .i64 h.2.2.2.2.1, .int .i64 h.2.2.2.2.2.1, .int .i64 h.2.2.2.2.2.2.1, .int .i64 h.2.2.2.2.2.2.2.1, .int .i64 h.2.2.2.2.2.2.2.2.1, .int .i64 h.2.2.2.2.2.2.2.2.2.1, .int .i64 h.2.2.2.2.2.2.2.2.2.2.1, .slice h.2.2.2.2.2.2.2.2.2.2.2.a h.2.2.2.2.2.2.2.2.2.2.2.len h.2.2.2.2.2.2.2.2.2.2.2.cap]
def HasBlit (w : World) (b : Nat) (h : Blit) : Prop := blk w b = some (cellsBlit h).toArray ∧ fre w b = true
theorem hasBlit_new (w : World) (h : Blit) : HasBlit (w.alloc (.cells (cellsBlit h).toArray 52)) w.heap.size h :=
  ⟨by rw [blk_alloc, if_pos rfl], by rw [fre_alloc, if_pos rfl]⟩
theorem hasBlit_below {B b : Nat} {w w' : World} {h : Blit} (H : HasBlit w b h) (k : Below B w w') (hb : b < B) : HasBlit w' b h :=
  ⟨(Go.Sh.Below.blk k hb).trans H.1, (Go.Sh.Below.fre k hb).trans H.2⟩
theorem hasBlit_size {b : Nat} {w w' : World} {h : Blit} (H : HasBlit w b h) (k : Below w.heap.size w w') : HasBlit w' b h := hasBlit_below H k (blk_lt H.1)
theorem hasBlit_lt {b : Nat} {w : World} {h : Blit} (H : HasBlit w b h) : b < w.heap.size := blk_lt H.1
theorem hasBlit_drew {b : Nat} {w : World} {h : Blit} (H : HasBlit w b h) : HasBlit w.drew b h := ⟨(blk_drew w b).trans H.1, (fre_drew w b).trans H.2⟩
theorem hasBlit_set {b b' : Nat} {w : World} {h : Blit} {c d : Array Value} (H : HasBlit w b h) (hd : blk w b' = some d) (hs : c.size = d.size) (hne : b ≠ b') : HasBlit (World.setBlk w b' c) b h :=
  ⟨by rw [blk_setBlk _ _ _ _ hd, if_neg hne]; exact H.1, by rw [fre_setBlk _ _ _ _ hd hs]; exact H.2⟩
theorem ok_Blit0 {w : World} {b : Nat} {h : Blit} {Q : Int → World → Prop} (H : HasBlit w b h) (hq : Q h.1 w) : Ok (ld (.int .i64) (Addr.add ⟨b, 0, none⟩ 0)) w Q := ok_ldA H.1 rfl hq
theorem okc_Blit0 {w : World} {b : Nat} {h : Blit} {Q : Unit → World → Prop} (H : HasBlit w b h) (hq : Q () w) : Ok (chk (.int .i64) (Addr.add ⟨b, 0, none⟩ 0) h.1) w Q := ok_chkA H.1 rfl hq
theorem ok_Blit1 {w : World} {b : Nat} {h : Blit} {Q : Int → World → Prop} (H : HasBlit w b h) (hq : Q h.2.1 w) : Ok (ld (.int .i64) (Addr.add ⟨b, 0, none⟩ 1)) w Q := ok_ldA H.1 rfl hq
theorem okc_Blit1 {w : World} {b : Nat} {h : Blit} {Q : Unit → World → Prop} (H : HasBlit w b h) (hq : Q () w) : Ok (chk (.int .i64) (Addr.add ⟨b, 0, none⟩ 1) h.2.1) w Q := ok_chkA H.1 rfl hq
theorem ok_Blit2 {w : World} {b : Nat} {h : Blit} {Q : Int → World → Prop} (H : HasBlit w b h) (hq : Q h.2.2.1 w) : Ok (ld (.int .i64) (Addr.add ⟨b, 0, none⟩ 2)) w Q := ok_ldA H.1 rfl hq
theorem okc_Blit2 {w : World} {b : Nat} {h : Blit} {Q : Unit → World → Prop} (H : HasBlit w b h) (hq : Q () w) : Ok (chk (.int .i64) (Addr.add ⟨b, 0, none⟩ 2) h.2.2.1) w Q := ok_chkA H.1 rfl hq
theorem ok_Blit3 {w : World} {b : Nat} {h : Blit} {Q : Int → World → Prop} (H : HasBlit w b h) (hq : Q h.2.2.2.1 w) : Ok (ld (.int .i64) (Addr.add ⟨b, 0, none⟩ 3)) w Q := ok_ldA H.1 rfl hq
theorem okc_Blit3 {w : World} {b : Nat} {h : Blit} {Q : Unit → World → Prop} (H : HasBlit w b h) (hq : Q () w) : Ok (chk (.int .i64) (Addr.add ⟨b, 0, none⟩ 3) h.2.2.2.1) w Q := ok_chkA H.1 rfl hq
theorem ok_Blit4 {w : World} {b : Nat} {h : Blit} {Q : Int → World → Prop} (H : HasBlit w b h) (hq : Q h.2.2.2.2.1 w) : Ok (ld (.int .i64) (Addr.add ⟨b, 0, none⟩ 4)) w Q := ok_ldA H.1 rfl hq
theorem okc_Blit4 {w : World} {b : Nat} {h : Blit} {Q : Unit → World → Prop} (H : HasBlit w b h) (hq : Q () w) : Ok (chk (.int .i64) (Addr.add ⟨b, 0, none⟩ 4) h.2.2.2.2.1) w Q := ok_chkA H.1 rfl hq
theorem ok_Blit5 {w : World} {b : Nat} {h : Blit} {Q : Int → World → Prop} (H : HasBlit w b h) (hq : Q h.2.2.2.2.2.1 w) : Ok (ld (.int .i64) (Addr.add ⟨b, 0, none⟩ 5)) w Q := ok_ldA H.1 rfl hq
theorem okc_Blit5 {w : World} {b : Nat} {h : Blit} {Q : Unit → World → Prop} (H : HasBlit w b h) (hq : Q () w) : Ok (chk (.int .i64) (Addr.add ⟨b, 0, none⟩ 5) h.2.2.2.2.2.1) w Q := ok_chkA H.1 rfl hq
theorem ok_Blit6 {w : World} {b : Nat} {h : Blit} {Q : Int → World → Prop} (H : HasBlit w b h) (hq : Q h.2.2.2.2.2.2.1 w) : Ok (ld (.int .i64) (Addr.add ⟨b, 0, none⟩ 6)) w Q := ok_ldA H.1 rfl hq
theorem okc_Blit6 {w : World} {b : Nat} {h : Blit} {Q : Unit → World → Prop} (H : HasBlit w b h) (hq : Q () w) : Ok (chk (.int .i64) (Addr.add ⟨b, 0, none⟩ 6) h.2.2.2.2.2.2.1) w Q := ok_chkA H.1 rfl hq
theorem ok_Blit7 {w : World} {b : Nat} {h : Blit} {Q : Int → World → Prop} (H : HasBlit w b h) (hq : Q h.2.2.2.2.2.2.2.1 w) : Ok (ld (.int .i64) (Addr.add ⟨b, 0, none⟩ 7)) w Q := ok_ldA H.1 rfl hq
theorem okc_Blit7 {w : World} {b : Nat} {h : Blit} {Q : Unit → World → Prop} (H : HasBlit w b h) (hq : Q () w) : Ok (chk (.int .i64) (Addr.add ⟨b, 0, none⟩ 7) h.2.2.2.2.2.2.2.1) w Q := ok_chkA H.1 rfl hq
theorem ok_Blit8 {w : World} {b : Nat} {h : Blit} {Q : Int → World → Prop} (H : HasBlit w b h) (hq : Q h.2.2.2.2.2.2.2.2.1 w) : Ok (ld (.int .i64) (Addr.add ⟨b, 0, none⟩ 8)) w Q := ok_ldA H.1 rfl hq
theorem okc_Blit8 {w : World} {b : Nat} {h : Blit} {Q : Unit → World → Prop} (H : HasBlit w b h) (hq : Q () w) : Ok (chk (.int .i64) (Addr.add ⟨b, 0, none⟩ 8) h.2.2.2.2.2.2.2.2.1) w Q := ok_chkA H.1 rfl hq
theorem ok_Blit9 {w : World} {b : Nat} {h : Blit} {Q : Int → World → Prop} (H : HasBlit w b h) (hq : Q h.2.2.2.2.2.2.2.2.2.1 w) : Ok (ld (.int .i64) (Addr.add ⟨b, 0, none⟩ 9)) w Q := ok_ldA H.1 rfl hq
theorem okc_Blit9 {w : World} {b : Nat} {h : Blit} {Q : Unit → World → Prop} (H : HasBlit w b h) (hq : Q () w) : Ok (chk (.int .i64) (Addr.add ⟨b, 0, none⟩ 9) h.2.2.2.2.2.2.2.2.2.1) w Q := ok_chkA H.1 rfl hq
theorem ok_Blit10 {w : World} {b : Nat} {h : Blit} {Q : Int → World → Prop} (H : HasBlit w b h) (hq : Q h.2.2.2.2.2.2.2.2.2.2.1 w) : Ok (ld (.int .i64) (Addr.add ⟨b, 0, none⟩ 10)) w Q := ok_ldA H.1 rfl hq
theorem okc_Blit10 {w : World} {b : Nat} {h : Blit} {Q : Unit → World → Prop} (H : HasBlit w b h) (hq : Q () w) : Ok (chk (.int .i64) (Addr.add ⟨b, 0, none⟩ 10) h.2.2.2.2.2.2.2.2.2.2.1) w Q := ok_chkA H.1 rfl hq
theorem ok_Blit11 {w : World} {b : Nat} {h : Blit} {Q : Sl → World → Prop} (H : HasBlit w b h) (hq : Q h.2.2.2.2.2.2.2.2.2.2.2 w) : Ok (ld .sl (Addr.add ⟨b, 0, none⟩ 11)) w Q := ok_ldA H.1 rfl hq
theorem okc_Blit11 {w : World} {b : Nat} {h : Blit} {Q : Unit → World → Prop} (H : HasBlit w b h) (hq : Q () w) : Ok (chk .sl (Addr.add ⟨b, 0, none⟩ 11) h.2.2.2.2.2.2.2.2.2.2.2) w Q := ok_chkA H.1 rfl hq
theorem ok_Blit {w : World} {b : Nat} {h : Blit} {Q : Blit → World → Prop} (H : HasBlit w b h) (hq : Q h w) : Ok (ld tBlit ⟨b, 0, none⟩) w Q := ok_ld H.1 rfl hq
theorem okc_Blit {w : World} {b : Nat} {h : Blit} {Q : Unit → World → Prop} (H : HasBlit w b h) (hq : Q () w) : Ok (chk tBlit ⟨b, 0, none⟩ h) w Q := ok_chk H.1 rfl hq
theorem ok_newBlit {w : World} {h : Blit} {Q : Addr → World → Prop} (hq : ∀ w', HasBlit w' w.heap.size h → Below w.heap.size w w' → w'.heap.size = w.heap.size + 1 → Q ⟨w.heap.size, 0, none⟩ w') : Ok (newC 52 (cellsBlit h)) w Q :=
  ok_newC.2 (hq _ (hasBlit_new w h) ((Below.refl _ _).alloc (Nat.le_refl _) _) (by simp))
theorem ok_wrBlit {w : World} {b : Nat} {h0 h : Blit} {Q : Unit → World → Prop} (H : HasBlit w b h0) (hq : ∀ w', HasBlit w' b h → Below b w w' → w'.heap.size = w.heap.size → (∀ k, k ≠ b → blk w' k = blk w k ∧ fre w' k = fre w k) → Q () w') : Ok (wrs ⟨b, 0, none⟩ 0 (cellsBlit h)) w Q := by
  refine ok_wrs H.1 H.2 (by simp [cellsBlit]) (by simp [cellsBlit, single]) (hq _ ⟨?_, ?_⟩ (below_setBlk (Below.refl _ _) (Nat.le_refl _) _) (size_setBlk _ _ _) ?_)
  · rw [blk_setBlk _ _ _ _ H.1, if_pos rfl, splice_all _ _ (by simp [cellsBlit])]
  · rw [fre_setBlk _ _ _ _ H.1 (by simp [splice_size])]; exact H.2
  · intro k hk
    exact ⟨by rw [blk_setBlk _ _ _ _ H.1, if_neg hk], by rw [fre_setBlk _ _ _ _ H.1 (by simp [splice_size])]⟩
theorem ok_wrBlit0 {w : World} {b : Nat} {h : Blit} {x : Int} {Q : Unit → World → Prop} (H : HasBlit w b h) (hq : ∀ w', HasBlit w' b (x, h.2.1, h.2.2.1, h.2.2.2.1, h.2.2.2.2.1, h.2.2.2.2.2.1, h.2.2.2.2.2.2.1, h.2.2.2.2.2.2.2.1, h.2.2.2.2.2.2.2.2.1, h.2.2.2.2.2.2.2.2.2.1, h.2.2.2.2.2.2.2.2.2.2.1, h.2.2.2.2.2.2.2.2.2.2.2) → Below b w w' → w'.heap.size = w.heap.size → (∀ k, k ≠ b → blk w' k = blk w k ∧ fre w' k = fre w k) → Q () w') : Ok (wrs (Addr.add ⟨b, 0, none⟩ 0) 0 [.int .i64 x]) w Q := by
  have ha : (Addr.add ⟨b, 0, none⟩ 0) = ⟨b, 0, none⟩ := rfl
  rw [ha]
  refine ok_wrs H.1 H.2 (by simp [cellsBlit]) (by simp [single]) (hq _ ⟨?_, ?_⟩ (below_setBlk (Below.refl _ _) (Nat.le_refl _) _) (size_setBlk _ _ _) ?_)
  · rw [blk_setBlk _ _ _ _ H.1, if_pos rfl]; rfl
  · rw [fre_setBlk _ _ _ _ H.1 (by simp [splice_size])]; exact H.2
  · intro k hk
    exact ⟨by rw [blk_setBlk _ _ _ _ H.1, if_neg hk], by rw [fre_setBlk _ _ _ _ H.1 (by simp [splice_size])]⟩
theorem ok_wrBlit1 {w : World} {b : Nat} {h : Blit} {x : Int} {Q : Unit → World → Prop} (H : HasBlit w b h) (hq : ∀ w', HasBlit w' b (h.1, x, h.2.2.1, h.2.2.2.1, h.2.2.2.2.1, h.2.2.2.2.2.1, h.2.2.2.2.2.2.1, h.2.2.2.2.2.2.2.1, h.2.2.2.2.2.2.2.2.1, h.2.2.2.2.2.2.2.2.2.1, h.2.2.2.2.2.2.2.2.2.2.1, h.2.2.2.2.2.2.2.2.2.2.2) → Below b w w' → w'.heap.size = w.heap.size → (∀ k, k ≠ b → blk w' k = blk w k ∧ fre w' k = fre w k) → Q () w') : Ok (wrs (Addr.add ⟨b, 0, none⟩ 1) 0 [.int .i64 x]) w Q := by
  have ha : (Addr.add ⟨b, 0, none⟩ 1) = ⟨b, 1, none⟩ := rfl
  rw [ha]
  refine ok_wrs H.1 H.2 (by simp [cellsBlit]) (by simp [single]) (hq _ ⟨?_, ?_⟩ (below_setBlk (Below.refl _ _) (Nat.le_refl _) _) (size_setBlk _ _ _) ?_)
  · rw [blk_setBlk _ _ _ _ H.1, if_pos rfl]; rfl
  · rw [fre_setBlk _ _ _ _ H.1 (by simp [splice_size])]; exact H.2
  · intro k hk
    exact ⟨by rw [blk_setBlk _ _ _ _ H.1, if_neg hk], by rw [fre_setBlk _ _ _ _ H.1 (by simp [splice_size])]⟩
theorem ok_wrBlit2 {w : World} {b : Nat} {h : Blit} {x : Int} {Q : Unit → World → Prop} (H : HasBlit w b h) (hq : ∀ w', HasBlit w' b (h.1, h.2.1, x, h.2.2.2.1, h.2.2.2.2.1, h.2.2.2.2.2.1, h.2.2.2.2.2.2.1, h.2.2.2.2.2.2.2.1, h.2.2.2.2.2.2.2.2.1, h.2.2.2.2.2.2.2.2.2.1, h.2.2.2.2.2.2.2.2.2.2.1, h.2.2.2.2.2.2.2.2.2.2.2) → Below b w w' → w'.heap.size = w.heap.size → (∀ k, k ≠ b → blk w' k = blk w k ∧ fre w' k = fre w k) → Q () w') : Ok (wrs (Addr.add ⟨b, 0, none⟩ 2) 0 [.int .i64 x]) w Q := by
  have ha : (Addr.add ⟨b, 0, none⟩ 2) = ⟨b, 2, none⟩ := rfl
  rw [ha]
  refine ok_wrs H.1 H.2 (by simp [cellsBlit]) (by simp [single]) (hq _ ⟨?_, ?_⟩ (below_setBlk (Below.refl _ _) (Nat.le_refl _) _) (size_setBlk _ _ _) ?_)
  · rw [blk_setBlk _ _ _ _ H.1, if_pos rfl]; rfl
  · rw [fre_setBlk _ _ _ _ H.1 (by simp [splice_size])]; exact H.2
  · intro k hk
    exact ⟨by rw [blk_setBlk _ _ _ _ H.1, if_neg hk], by rw [fre_setBlk _ _ _ _ H.1 (by simp [splice_size])]⟩
theorem ok_wrBlit3 {w : World} {b : Nat} {h : Blit} {x : Int} {Q : Unit → World → Prop} (H : HasBlit w b h) (hq : ∀ w', HasBlit w' b (h.1, h.2.1, h.2.2.1, x, h.2.2.2.2.1, h.2.2.2.2.2.1, h.2.2.2.2.2.2.1, h.2.2.2.2.2.2.2.1, h.2.2.2.2.2.2.2.2.1, h.2.2.2.2.2.2.2.2.2.1, h.2.2.2.2.2.2.2.2.2.2.1, h.2.2.2.2.2.2.2.2.2.2.2) → Below b w w' → w'.heap.size = w.heap.size → (∀ k, k ≠ b → blk w' k = blk w k ∧ fre w' k = fre w k) → Q () w') : Ok (wrs (Addr.add ⟨b, 0, none⟩ 3) 0 [.int .i64 x]) w Q := by
  have ha : (Addr.add ⟨b, 0, none⟩ 3) = ⟨b, 3, none⟩ := rfl
  rw [ha]
  refine ok_wrs H.1 H.2 (by simp [cellsBlit]) (by simp [single]) (hq _ ⟨?_, ?_⟩ (below_setBlk (Below.refl _ _) (Nat.le_refl _) _) (size_setBlk _ _ _) ?_)
  · rw [blk_setBlk _ _ _ _ H.1, if_pos rfl]; rfl
  · rw [fre_setBlk _ _ _ _ H.1 (by simp [splice_size])]; exact H.2
  · intro k hk
    exact ⟨by rw [blk_setBlk _ _ _ _ H.1, if_neg hk], by rw [fre_setBlk _ _ _ _ H.1 (by simp [splice_size])]⟩
theorem ok_wrBlit4 {w : World} {b : Nat} {h : Blit} {x : Int} {Q : Unit → World → Prop} (H : HasBlit w b h) (hq : ∀ w', HasBlit w' b (h.1, h.2.1, h.2.2.1, h.2.2.2.1, x, h.2.2.2.2.2.1, h.2.2.2.2.2.2.1, h.2.2.2.2.2.2.2.1, h.2.2.2.2.2.2.2.2.1, h.2.2.2.2.2.2.2.2.2.1, h.2.2.2.2.2.2.2.2.2.2.1, h.2.2.2.2.2.2.2.2.2.2.2) → Below b w w' → w'.heap.size = w.heap.size → (∀ k, k ≠ b → blk w' k = blk w k ∧ fre w' k = fre w k) → Q () w') : Ok (wrs (Addr.add ⟨b, 0, none⟩ 4) 0 [.int .i64 x]) w Q := by
  have ha : (Addr.add ⟨b, 0, none⟩ 4) = ⟨b, 4, none⟩ := rfl
  rw [ha]
  refine ok_wrs H.1 H.2 (by simp [cellsBlit]) (by simp [single]) (hq _ ⟨?_, ?_⟩ (below_setBlk (Below.refl _ _) (Nat.le_refl _) _) (size_setBlk _ _ _) ?_)
  · rw [blk_setBlk _ _ _ _ H.1, if_pos rfl]; rfl
  · rw [fre_setBlk _ _ _ _ H.1 (by simp [splice_size])]; exact H.2
  · intro k hk
    exact ⟨by rw [blk_setBlk _ _ _ _ H.1, if_neg hk], by rw [fre_setBlk _ _ _ _ H.1 (by simp [splice_size])]⟩
theorem ok_wrBlit5 {w : World} {b : Nat} {h : Blit} {x : Int} {Q : Unit → World → Prop} (H : HasBlit w b h) (hq : ∀ w', HasBlit w' b (h.1, h.2.1, h.2.2.1, h.2.2.2.1, h.2.2.2.2.1, x, h.2.2.2.2.2.2.1, h.2.2.2.2.2.2.2.1, h.2.2.2.2.2.2.2.2.1, h.2.2.2.2.2.2.2.2.2.1, h.2.2.2.2.2.2.2.2.2.2.1, h.2.2.2.2.2.2.2.2.2.2.2) → Below b w w' → w'.heap.size = w.heap.size → (∀ k, k ≠ b → blk w' k = blk w k ∧ fre w' k = fre w k) → Q () w') : Ok (wrs (Addr.add ⟨b, 0, none⟩ 5) 0 [.int .i64 x]) w Q := by
  have ha : (Addr.add ⟨b, 0, none⟩ 5) = ⟨b, 5, none⟩ := rfl
  rw [ha]
  refine ok_wrs H.1 H.2 (by simp [cellsBlit]) (by simp [single]) (hq _ ⟨?_, ?_⟩ (below_setBlk (Below.refl _ _) (Nat.le_refl _) _) (size_setBlk _ _ _) ?_)
  · rw [blk_setBlk _ _ _ _ H.1, if_pos rfl]; rfl
  · rw [fre_setBlk _ _ _ _ H.1 (by simp [splice_size])]; exact H.2
  · intro k hk
    exact ⟨by rw [blk_setBlk _ _ _ _ H.1, if_neg hk], by rw [fre_setBlk _ _ _ _ H.1 (by simp [splice_size])]⟩
theorem ok_wrBlit6 {w : World} {b : Nat} {h : Blit} {x : Int} {Q : Unit → World → Prop} (H : HasBlit w b h) (hq : ∀ w', HasBlit w' b (h.1, h.2.1, h.2.2.1, h.2.2.2.1, h.2.2.2.2.1, h.2.2.2.2.2.1, x, h.2.2.2.2.2.2.2.1, h.2.2.2.2.2.2.2.2.1, h.2.2.2.2.2.2.2.2.2.1, h.2.2.2.2.2.2.2.2.2.2.1, h.2.2.2.2.2.2.2.2.2.2.2) → Below b w w' → w'.heap.size = w.heap.size → (∀ k, k ≠ b → blk w' k = blk w k ∧ fre w' k = fre w k) → Q () w') : Ok (wrs (Addr.add ⟨b, 0, none⟩ 6) 0 [.int .i64 x]) w Q := by
  have ha : (Addr.add ⟨b, 0, none⟩ 6) = ⟨b, 6, none⟩ := rfl
  rw [ha]
  refine ok_wrs H.1 H.2 (by simp [cellsBlit]) (by simp [single]) (hq _ ⟨?_, ?_⟩ (below_setBlk (Below.refl _ _) (Nat.le_refl _) _) (size_setBlk _ _ _) ?_)
  · rw [blk_setBlk _ _ _ _ H.1, if_pos rfl]; rfl
  · rw [fre_setBlk _ _ _ _ H.1 (by simp [splice_size])]; exact H.2
  · intro k hk
    exact ⟨by rw [blk_setBlk _ _ _ _ H.1, if_neg hk], by rw [fre_setBlk _ _ _ _ H.1 (by simp [splice_size])]⟩
theorem ok_wrBlit7 {w : World} {b : Nat} {h : Blit} {x : Int} {Q : Unit → World → Prop} (H : HasBlit w b h) (hq : ∀ w', HasBlit w' b (h.1, h.2.1, h.2.2.1, h.2.2.2.1, h.2.2.2.2.1, h.2.2.2.2.2.1, h.2.2.2.2.2.2.1, x, h.2.2.2.2.2.2.2.2.1, h.2.2.2.2.2.2.2.2.2.1, h.2.2.2.2.2.2.2.2.2.2.1, h.2.2.2.2.2.2.2.2.2.2.2) → Below b w w' → w'.heap.size = w.heap.size → (∀ k, k ≠ b → blk w' k = blk w k ∧ fre w' k = fre w k) → Q () w') : Ok (wrs (Addr.add ⟨b, 0, none⟩ 7) 0 [.int .i64 x]) w Q := by
  have ha : (Addr.add ⟨b, 0, none⟩ 7) = ⟨b, 7, none⟩ := rfl
  rw [ha]
  refine ok_wrs H.1 H.2 (by simp [cellsBlit]) (by simp [single]) (hq _ ⟨?_, ?_⟩ (below_setBlk (Below.refl _ _) (Nat.le_refl _) _) (size_setBlk _ _ _) ?_)
  · rw [blk_setBlk _ _ _ _ H.1, if_pos rfl]; rfl
  · rw [fre_setBlk _ _ _ _ H.1 (by simp [splice_size])]; exact H.2
  · intro k hk
    exact ⟨by rw [blk_setBlk _ _ _ _ H.1, if_neg hk], by rw [fre_setBlk _ _ _ _ H.1 (by simp [splice_size])]⟩
theorem ok_wrBlit8 {w : World} {b : Nat} {h : Blit} {x : Int} {Q : Unit → World → Prop} (H : HasBlit w b h) (hq : ∀ w', HasBlit w' b (h.1, h.2.1, h.2.2.1, h.2.2.2.1, h.2.2.2.2.1, h.2.2.2.2.2.1, h.2.2.2.2.2.2.1, h.2.2.2.2.2.2.2.1, x, h.2.2.2.2.2.2.2.2.2.1, h.2.2.2.2.2.2.2.2.2.2.1, h.2.2.2.2.2.2.2.2.2.2.2) → Below b w w' → w'.heap.size = w.heap.size → (∀ k, k ≠ b → blk w' k = blk w k ∧ fre w' k = fre w k) → Q () w') : Ok (wrs (Addr.add ⟨b, 0, none⟩ 8) 0 [.int .i64 x]) w Q := by
  have ha : (Addr.add ⟨b, 0, none⟩ 8) = ⟨b, 8, none⟩ := rfl
  rw [ha]
  refine ok_wrs H.1 H.2 (by simp [cellsBlit]) (by simp [single]) (hq _ ⟨?_, ?_⟩ (below_setBlk (Below.refl _ _) (Nat.le_refl _) _) (size_setBlk _ _ _) ?_)
  · rw [blk_setBlk _ _ _ _ H.1, if_pos rfl]; rfl
  · rw [fre_setBlk _ _ _ _ H.1 (by simp [splice_size])]; exact H.2
  · intro k hk
    exact ⟨by rw [blk_setBlk _ _ _ _ H.1, if_neg hk], by rw [fre_setBlk _ _ _ _ H.1 (by simp [splice_size])]⟩
theorem ok_wrBlit9 {w : World} {b : Nat} {h : Blit} {x : Int} {Q : Unit → World → Prop} (H : HasBlit w b h) (hq : ∀ w', HasBlit w' b (h.1, h.2.1, h.2.2.1, h.2.2.2.1, h.2.2.2.2.1, h.2.2.2.2.2.1, h.2.2.2.2.2.2.1, h.2.2.2.2.2.2.2.1, h.2.2.2.2.2.2.2.2.1, x, h.2.2.2.2.2.2.2.2.2.2.1, h.2.2.2.2.2.2.2.2.2.2.2) → Below b w w' → w'.heap.size = w.heap.size → (∀ k, k ≠ b → blk w' k = blk w k ∧ fre w' k = fre w k) → Q () w') : Ok (wrs (Addr.add ⟨b, 0, none⟩ 9) 0 [.int .i64 x]) w Q := by
  have ha : (Addr.add ⟨b, 0, none⟩ 9) = ⟨b, 9, none⟩ := rfl
  rw [ha]
  refine ok_wrs H.1 H.2 (by simp [cellsBlit]) (by simp [single]) (hq _ ⟨?_, ?_⟩ (below_setBlk (Below.refl _ _) (Nat.le_refl _) _) (size_setBlk _ _ _) ?_)
  · rw [blk_setBlk _ _ _ _ H.1, if_pos rfl]; rfl
  · rw [fre_setBlk _ _ _ _ H.1 (by simp [splice_size])]; exact H.2
  · intro k hk
    exact ⟨by rw [blk_setBlk _ _ _ _ H.1, if_neg hk], by rw [fre_setBlk _ _ _ _ H.1 (by simp [splice_size])]⟩
theorem ok_wrBlit10 {w : World} {b : Nat} {h : Blit} {x : Int} {Q : Unit → World → Prop} (H : HasBlit w b h) (hq : ∀ w', HasBlit w' b (h.1, h.2.1, h.2.2.1, h.2.2.2.1, h.2.2.2.2.1, h.2.2.2.2.2.1, h.2.2.2.2.2.2.1, h.2.2.2.2.2.2.2.1, h.2.2.2.2.2.2.2.2.1, h.2.2.2.2.2.2.2.2.2.1, x, h.2.2.2.2.2.2.2.2.2.2.2) → Below b w w' → w'.heap.size = w.heap.size → (∀ k, k ≠ b → blk w' k = blk w k ∧ fre w' k = fre w k) → Q () w') : Ok (wrs (Addr.add ⟨b, 0, none⟩ 10) 0 [.int .i64 x]) w Q := by
  have ha : (Addr.add ⟨b, 0, none⟩ 10) = ⟨b, 10, none⟩ := rfl
  rw [ha]
  refine ok_wrs H.1 H.2 (by simp [cellsBlit]) (by simp [single]) (hq _ ⟨?_, ?_⟩ (below_setBlk (Below.refl _ _) (Nat.le_refl _) _) (size_setBlk _ _ _) ?_)
  · rw [blk_setBlk _ _ _ _ H.1, if_pos rfl]; rfl
  · rw [fre_setBlk _ _ _ _ H.1 (by simp [splice_size])]; exact H.2
  · intro k hk
    exact ⟨by rw [blk_setBlk _ _ _ _ H.1, if_neg hk], by rw [fre_setBlk _ _ _ _ H.1 (by simp [splice_size])]⟩
theorem ok_wrBlit11 {w : World} {b : Nat} {h : Blit} {x : Sl} {Q : Unit → World → Prop} (H : HasBlit w b h) (hq : ∀ w', HasBlit w' b (h.1, h.2.1, h.2.2.1, h.2.2.2.1, h.2.2.2.2.1, h.2.2.2.2.2.1, h.2.2.2.2.2.2.1, h.2.2.2.2.2.2.2.1, h.2.2.2.2.2.2.2.2.1, h.2.2.2.2.2.2.2.2.2.1, h.2.2.2.2.2.2.2.2.2.2.1, x) → Below b w w' → w'.heap.size = w.heap.size → (∀ k, k ≠ b → blk w' k = blk w k ∧ fre w' k = fre w k) → Q () w') : Ok (wrs (Addr.add ⟨b, 0, none⟩ 11) 0 [.slice x.a x.len x.cap]) w Q := by
  have ha : (Addr.add ⟨b, 0, none⟩ 11) = ⟨b, 11, none⟩ := rfl
  rw [ha]
  refine ok_wrs H.1 H.2 (by simp [cellsBlit]) (by simp [single]) (hq _ ⟨?_, ?_⟩ (below_setBlk (Below.refl _ _) (Nat.le_refl _) _) (size_setBlk _ _ _) ?_)
  · rw [blk_setBlk _ _ _ _ H.1, if_pos rfl]; rfl
  · rw [fre_setBlk _ _ _ _ H.1 (by simp [splice_size])]; exact H.2
  · intro k hk
    exact ⟨by rw [blk_setBlk _ _ _ _ H.1, if_neg hk], by rw [fre_setBlk _ _ _ _ H.1 (by simp [splice_size])]⟩
end Go.Proofs.Ytpgalllceejpnaa
