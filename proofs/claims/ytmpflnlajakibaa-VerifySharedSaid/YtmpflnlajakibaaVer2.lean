/- The state of verify.looker; the walk of target. -/
import Derived.Test.YtmpflnlajakibaaVer1
import Derived.Test.YtmpflnlajakibaaA5
import Derived.Test.YtmpflnlajakibaaA6
namespace Go.Proofs.Ytmpflnlajakibaa
set_option linter.unusedVariables false
set_option linter.unusedSimpArgs false
set_option linter.unusedSectionVars false
open Go.RowKit
structure St (w : World) (lk hm cm b o n cap : Nat) (L : List UInt8) (deep left steps at_ e : Int) (F G : Value → Option Value) : Prop where
  row : w.heap[lk]? = some (.cells (lkCells (.slice (some ⟨b, o, none⟩) n cap) deep left steps hm cm at_ e) 64 (0, 0))
  mh : MapIs Try.prog 100 w hm F
  mc : MapIs Try.prog 3 w cm G
  doc : Doc w b o n cap L
  n1 : lk ≠ hm
  n2 : lk ≠ cm
  n3 : hm ≠ cm
  n4 : b ≠ lk
  n5 : b ≠ hm
  n6 : b ≠ cm
section
variable {w w' : World} {lk hm cm b o n cap : Nat} {L : List UInt8} {deep left steps at_ e : Int} {F G : Value → Option Value}
theorem St.lt (S : St w lk hm cm b o n cap L deep left steps at_ e F G) : lk < w.heap.size := (Array.getElem?_eq_some_iff.1 S.row).1
theorem St.quiet (S : St w lk hm cm b o n cap L deep left steps at_ e F G) (h : Below w.heap.size w w') : St w' lk hm cm b o n cap L deep left steps at_ e F G :=
  ⟨(h.block _ S.lt).trans S.row, S.mh.same (h.block _ S.mh.lt), S.mc.same (h.block _ S.mc.lt), S.doc.below h, S.n1, S.n2, S.n3, S.n4, S.n5, S.n6⟩
theorem Doc.touch {b o n cap : Nat} {L : List UInt8} (D : Doc w b o n cap L) {T : List Nat} (h : Touch T w w') (hb : b ∉ T) : Doc w' b o n cap L :=
  ⟨D.len, D.le, D.max, D.sm, fun i hi => by
    rw [World.cell?_of_block (w := w) (w' := w') (a := ⟨b, o + i, none⟩) (h.block b D.lt hb)]; exact D.at_ i hi, Nat.lt_of_lt_of_le D.lt h.size⟩
theorem St.told (S : St w lk hm cm b o n cap L deep left steps at_ e F G) (h : Touch [lk] w w') {deep' left' steps' at' e' : Int}
    (hr : w'.heap[lk]? = some (.cells (lkCells (.slice (some ⟨b, o, none⟩) n cap) deep' left' steps' hm cm at' e') 64 (0, 0))) : St w' lk hm cm b o n cap L deep' left' steps' at' e' F G :=
  ⟨hr, S.mh.same (h.block _ S.mh.lt (by simpa using S.n1.symm)), S.mc.same (h.block _ S.mc.lt (by simpa using S.n2.symm)), S.doc.touch h (by simpa using S.n4), S.n1, S.n2, S.n3, S.n4, S.n5, S.n6⟩
end
set_option maxHeartbeats 4000000 in
theorem vtarget_ok (w : World) (lk hm cm b o n cap : Nat) (L : List UInt8) (deep left steps at_ : Int) (F G : Value → Option Value) (S : St w lk hm cm b o n cap L deep left steps at_ 0 F G)
    (p q t k lim : Int) (h1 : wideB q = true) (h2 : 0 ≤ p) (h3 : p + q ≤ n) (h4 : 1 ≤ k) (h5 : k ≤ 8) (h6 : tgtB L p q t k lim = true) :
    Calls Try.prog 47 #[.pointer (some ⟨lk, 0, none⟩), .agg #[.int .i64 p, .int .i64 q, .int .i64 t, .int .i64 k], .int .i64 lim] w fun en w' =>
      en = .returned (.tuple #[.int .i64 (p - loadV L p q), .bool true]) ∧ Below w.heap.size w w' := by
  have D := S.doc
  obtain ⟨hn1, hn2⟩ := D.bd
  have hbw := D.lt
  have hlw := S.lt
  have hq := wideB_bd h1
  have c0 : w.cell? ⟨lk, 0, none⟩ = some (.slice (some ⟨b, o, none⟩) n cap) := cell_of_row _ _ _ _ _ _ S.row
  have c7 : w.cell? ⟨lk, 7, none⟩ = some (.int .i64 0) := cell_of_row _ _ _ _ _ _ S.row
  have v0 := loadV_nonneg L p q
  simp only [tgtB, Bool.and_eq_true, decide_eq_true_eq] at h6
  obtain ⟨g1, g2⟩ := h6
  have g1' : ¬ p < loadV L p q := by omega
  have g2' : ¬ lim ≤ beginsV t k (p - loadV L p q) := by omega
  clear h1 g2 S
  go_enter Try.func47, Try.ntmps47
  go_wp2
  go_region_with (go_at_call 79; refine (load_any _ _ _ _ L _ _ _ (D.below (by (repeat' (first | (with_reducible exact Below.refl _ _) | (with_reducible assumption) | (with_reducible refine Below.alloc ?_ ?_ _) | (with_reducible refine Below.drew ?_) | (with_reducible refine below_drewN ?_ _) | (with_reducible refine Below.setCell ?_ ?_ _) | (with_reducible refine below_call (by assumption) ?_ ?_) | (with_reducible exact Nat.le_refl _) | omega | (simp only [World.size_alloc, World.size_setCell, World.size_drew]; omega) | (simp; omega)))))).mono ?_; rintro e w1 ⟨rfl, hb1⟩; obtain ⟨hc1, hf1, hl1⟩ := bcell hb1; (try simp only [World.size_drew, World.cell?_drew, World.frozen?_drew] at hc1 hf1 hl1); have hz1 := hb1.size; (try simp only [World.size_alloc, World.size_setCell, World.size_drew] at hz1); (try have g0 : w.heap.size < w1.heap.size := by omega); (try have g1 : w.heap.size + 1 < w1.heap.size := by omega); (try have g2 : w.heap.size + 2 < w1.heap.size := by omega); (try have gb : b < w1.heap.size := by omega); (try have g3 : w.heap.size + 3 < w1.heap.size := by omega); (try have hbb : Below w.heap.size w w1 := by (repeat' (first | (with_reducible exact Below.refl _ _) | (with_reducible assumption) | (with_reducible refine Below.alloc ?_ ?_ _) | (with_reducible refine Below.drew ?_) | (with_reducible refine below_drewN ?_ _) | (with_reducible refine Below.setCell ?_ ?_ _) | (with_reducible refine below_call (by assumption) ?_ ?_) | (with_reducible exact Nat.le_refl _) | omega | (simp only [World.size_alloc, World.size_setCell, World.size_drew]; omega) | (simp; omega)))); (try obtain ⟨hco, hfo, _⟩ := bcell hbb); (try have hb1 := hb1))
  all_goals go_wp2_with (go_at_call 80; refine (begins_any p q t k _ _ (by omega) (by omega) h4 h5).mono ?_; rintro e w1 ⟨rfl, hb1⟩; obtain ⟨hc1, hf1, hl1⟩ := bcell hb1; (try simp only [World.size_drew, World.cell?_drew, World.frozen?_drew] at hc1 hf1 hl1); have hz1 := hb1.size; (try simp only [World.size_alloc, World.size_setCell, World.size_drew] at hz1); (try have g0 : w.heap.size < w1.heap.size := by omega); (try have g1 : w.heap.size + 1 < w1.heap.size := by omega); (try have g2 : w.heap.size + 2 < w1.heap.size := by omega); (try have gb : b < w1.heap.size := by omega); (try have g3 : w.heap.size + 3 < w1.heap.size := by omega); (try have hbb : Below w.heap.size w w1 := by (repeat' (first | (with_reducible exact Below.refl _ _) | (with_reducible assumption) | (with_reducible refine Below.alloc ?_ ?_ _) | (with_reducible refine Below.drew ?_) | (with_reducible refine below_drewN ?_ _) | (with_reducible refine Below.setCell ?_ ?_ _) | (with_reducible refine below_call (by assumption) ?_ ?_) | (with_reducible exact Nat.le_refl _) | omega | (simp only [World.size_alloc, World.size_setCell, World.size_drew]; omega) | (simp; omega)))); (try obtain ⟨hco, hfo, _⟩ := bcell hbb); (try have hb1 := hb1))
  all_goals go_region
  all_goals go_wp2
  all_goals go_returns
  all_goals exact ⟨rfl, by (repeat' (first | (with_reducible exact Below.refl _ _) | (with_reducible assumption) | (with_reducible refine Below.alloc ?_ ?_ _) | (with_reducible refine Below.drew ?_) | (with_reducible refine below_drewN ?_ _) | (with_reducible refine Below.setCell ?_ ?_ _) | (with_reducible refine below_call (by assumption) ?_ ?_) | (with_reducible exact Nat.le_refl _) | omega | (simp only [World.size_alloc, World.size_setCell, World.size_drew]; omega) | (simp; omega)))⟩
def VtNo (w : World) (lk hm cm b o n cap : Nat) (L : List UInt8) (deep left steps : Int) (F G : Value → Option Value) (p : Int) (en : Ending) (w' : World) : Prop :=
  en = .returned (.tuple #[.int .i64 0, .bool false]) ∧ St w' lk hm cm b o n cap L deep left steps p 211 F G ∧ Touch [lk] w w'
set_option maxHeartbeats 4000000 in
theorem vtarget_no (w : World) (lk hm cm b o n cap : Nat) (L : List UInt8) (deep left steps at_ : Int) (F G : Value → Option Value) (S : St w lk hm cm b o n cap L deep left steps at_ 0 F G)
    (p q t k lim : Int) (h1 : wideB q = true) (h2 : 0 ≤ p) (h3 : p + q ≤ n) (h4 : 1 ≤ k) (h5 : k ≤ 8) (h6 : tgtB L p q t k lim = false) :
    Calls Try.prog 47 #[.pointer (some ⟨lk, 0, none⟩), .agg #[.int .i64 p, .int .i64 q, .int .i64 t, .int .i64 k], .int .i64 lim] w (VtNo w lk hm cm b o n cap L deep left steps F G p) := by
  have D := S.doc
  obtain ⟨hn1, hn2⟩ := D.bd
  have hbw := D.lt
  have hlw := S.lt
  have hq := wideB_bd h1
  have c0 : w.cell? ⟨lk, 0, none⟩ = some (.slice (some ⟨b, o, none⟩) n cap) := cell_of_row _ _ _ _ _ _ S.row
  have v0 := loadV_nonneg L p q
  have HS := Lib.hid S
  clear S
  by_cases g1 : p < loadV L p q
  · clear h1 h6
    go_enter Try.func47, Try.ntmps47
    go_wp2
    go_region_with (go_at_call 79; refine (load_any _ _ _ _ L _ _ _ (D.below (by (repeat' (first | (with_reducible exact Below.refl _ _) | (with_reducible assumption) | (with_reducible refine Below.alloc ?_ ?_ _) | (with_reducible refine Below.drew ?_) | (with_reducible refine below_drewN ?_ _) | (with_reducible refine Below.setCell ?_ ?_ _) | (with_reducible refine below_call (by assumption) ?_ ?_) | (with_reducible exact Nat.le_refl _) | omega | (simp only [World.size_alloc, World.size_setCell, World.size_drew]; omega) | (simp; omega)))))).mono ?_; rintro e w1 ⟨rfl, hb1⟩; obtain ⟨hc1, hf1, hl1⟩ := bcell hb1; (try simp only [World.size_drew, World.cell?_drew, World.frozen?_drew] at hc1 hf1 hl1); have hz1 := hb1.size; (try simp only [World.size_alloc, World.size_setCell, World.size_drew] at hz1); (try have g0 : w.heap.size < w1.heap.size := by omega); (try have g1 : w.heap.size + 1 < w1.heap.size := by omega); (try have g2 : w.heap.size + 2 < w1.heap.size := by omega); (try have gb : b < w1.heap.size := by omega); (try have g3 : w.heap.size + 3 < w1.heap.size := by omega); (try have hbb : Below w.heap.size w w1 := by (repeat' (first | (with_reducible exact Below.refl _ _) | (with_reducible assumption) | (with_reducible refine Below.alloc ?_ ?_ _) | (with_reducible refine Below.drew ?_) | (with_reducible refine below_drewN ?_ _) | (with_reducible refine Below.setCell ?_ ?_ _) | (with_reducible refine below_call (by assumption) ?_ ?_) | (with_reducible exact Nat.le_refl _) | omega | (simp only [World.size_alloc, World.size_setCell, World.size_drew]; omega) | (simp; omega)))); (try obtain ⟨hco, hfo, _⟩ := bcell hbb); (try have hb1 := hb1))
    all_goals go_wp2_with (go_at_call 45; refine (tell_any lk hm cm _ deep left steps at_ 0 p 211 _ (HS.out.quiet (by (repeat' (first | (with_reducible exact Below.refl _ _) | (with_reducible assumption) | (with_reducible refine Below.alloc ?_ ?_ _) | (with_reducible refine Below.drew ?_) | (with_reducible refine below_drewN ?_ _) | (with_reducible refine Below.setCell ?_ ?_ _) | (with_reducible refine below_call (by assumption) ?_ ?_) | (with_reducible exact Nat.le_refl _) | omega | (simp only [World.size_alloc, World.size_setCell, World.size_drew]; omega) | (simp; omega))))).row).mono ?_; rintro en w2 ⟨rfl, hr1, ht1⟩)
    all_goals go_returns
    all_goals exact ⟨by simp [tellE], by simpa [tellA, tellE] using (HS.out.quiet (by (repeat' (first | (with_reducible exact Below.refl _ _) | (with_reducible assumption) | (with_reducible refine Below.alloc ?_ ?_ _) | (with_reducible refine Below.drew ?_) | (with_reducible refine below_drewN ?_ _) | (with_reducible refine Below.setCell ?_ ?_ _) | (with_reducible refine below_call (by assumption) ?_ ?_) | (with_reducible exact Nat.le_refl _) | omega | (simp only [World.size_alloc, World.size_setCell, World.size_drew]; omega) | (simp; omega))))).told ht1 hr1, (Touch.quiet (by (repeat' (first | (with_reducible exact Below.refl _ _) | (with_reducible assumption) | (with_reducible refine Below.alloc ?_ ?_ _) | (with_reducible refine Below.drew ?_) | (with_reducible refine below_drewN ?_ _) | (with_reducible refine Below.setCell ?_ ?_ _) | (with_reducible refine below_call (by assumption) ?_ ?_) | (with_reducible exact Nat.le_refl _) | omega | (simp only [World.size_alloc, World.size_setCell, World.size_drew]; omega) | (simp; omega))))).trans ht1⟩
  · have g2 : lim ≤ beginsV t k (p - loadV L p q) := by
      simp only [tgtB, Bool.and_eq_false_iff, decide_eq_false_iff_not] at h6
      omega
    have g1' : loadV L p q ≤ p := by omega
    clear h1 h6 g1
    go_enter Try.func47, Try.ntmps47
    go_wp2
    go_region_with (go_at_call 79; refine (load_any _ _ _ _ L _ _ _ (D.below (by (repeat' (first | (with_reducible exact Below.refl _ _) | (with_reducible assumption) | (with_reducible refine Below.alloc ?_ ?_ _) | (with_reducible refine Below.drew ?_) | (with_reducible refine below_drewN ?_ _) | (with_reducible refine Below.setCell ?_ ?_ _) | (with_reducible refine below_call (by assumption) ?_ ?_) | (with_reducible exact Nat.le_refl _) | omega | (simp only [World.size_alloc, World.size_setCell, World.size_drew]; omega) | (simp; omega)))))).mono ?_; rintro e w1 ⟨rfl, hb1⟩; obtain ⟨hc1, hf1, hl1⟩ := bcell hb1; (try simp only [World.size_drew, World.cell?_drew, World.frozen?_drew] at hc1 hf1 hl1); have hz1 := hb1.size; (try simp only [World.size_alloc, World.size_setCell, World.size_drew] at hz1); (try have g0 : w.heap.size < w1.heap.size := by omega); (try have g1 : w.heap.size + 1 < w1.heap.size := by omega); (try have g2 : w.heap.size + 2 < w1.heap.size := by omega); (try have gb : b < w1.heap.size := by omega); (try have g3 : w.heap.size + 3 < w1.heap.size := by omega); (try have hbb : Below w.heap.size w w1 := by (repeat' (first | (with_reducible exact Below.refl _ _) | (with_reducible assumption) | (with_reducible refine Below.alloc ?_ ?_ _) | (with_reducible refine Below.drew ?_) | (with_reducible refine below_drewN ?_ _) | (with_reducible refine Below.setCell ?_ ?_ _) | (with_reducible refine below_call (by assumption) ?_ ?_) | (with_reducible exact Nat.le_refl _) | omega | (simp only [World.size_alloc, World.size_setCell, World.size_drew]; omega) | (simp; omega)))); (try obtain ⟨hco, hfo, _⟩ := bcell hbb); (try have hb1 := hb1))
    all_goals go_wp2_with (first | (go_at_call 80; refine (begins_any p q t k _ _ (by omega) (by omega) h4 h5).mono ?_; rintro e w1 ⟨rfl, hb1⟩; obtain ⟨hc1, hf1, hl1⟩ := bcell hb1; (try simp only [World.size_drew, World.cell?_drew, World.frozen?_drew] at hc1 hf1 hl1); have hz1 := hb1.size; (try simp only [World.size_alloc, World.size_setCell, World.size_drew] at hz1); (try have g0 : w.heap.size < w1.heap.size := by omega); (try have g1 : w.heap.size + 1 < w1.heap.size := by omega); (try have g2 : w.heap.size + 2 < w1.heap.size := by omega); (try have gb : b < w1.heap.size := by omega); (try have g3 : w.heap.size + 3 < w1.heap.size := by omega); (try have hbb : Below w.heap.size w w1 := by (repeat' (first | (with_reducible exact Below.refl _ _) | (with_reducible assumption) | (with_reducible refine Below.alloc ?_ ?_ _) | (with_reducible refine Below.drew ?_) | (with_reducible refine below_drewN ?_ _) | (with_reducible refine Below.setCell ?_ ?_ _) | (with_reducible refine below_call (by assumption) ?_ ?_) | (with_reducible exact Nat.le_refl _) | omega | (simp only [World.size_alloc, World.size_setCell, World.size_drew]; omega) | (simp; omega)))); (try obtain ⟨hco, hfo, _⟩ := bcell hbb); (try have hb1 := hb1)) | (go_at_call 45; refine (tell_any lk hm cm _ deep left steps at_ 0 p 211 _ (HS.out.quiet (by (repeat' (first | (with_reducible exact Below.refl _ _) | (with_reducible assumption) | (with_reducible refine Below.alloc ?_ ?_ _) | (with_reducible refine Below.drew ?_) | (with_reducible refine below_drewN ?_ _) | (with_reducible refine Below.setCell ?_ ?_ _) | (with_reducible refine below_call (by assumption) ?_ ?_) | (with_reducible exact Nat.le_refl _) | omega | (simp only [World.size_alloc, World.size_setCell, World.size_drew]; omega) | (simp; omega))))).row).mono ?_; rintro en w2 ⟨rfl, hr1, ht1⟩))
    all_goals go_returns
    all_goals exact ⟨by simp [tellE], by simpa [tellA, tellE] using (HS.out.quiet (by (repeat' (first | (with_reducible exact Below.refl _ _) | (with_reducible assumption) | (with_reducible refine Below.alloc ?_ ?_ _) | (with_reducible refine Below.drew ?_) | (with_reducible refine below_drewN ?_ _) | (with_reducible refine Below.setCell ?_ ?_ _) | (with_reducible refine below_call (by assumption) ?_ ?_) | (with_reducible exact Nat.le_refl _) | omega | (simp only [World.size_alloc, World.size_setCell, World.size_drew]; omega) | (simp; omega))))).told ht1 hr1, (Touch.quiet (by (repeat' (first | (with_reducible exact Below.refl _ _) | (with_reducible assumption) | (with_reducible refine Below.alloc ?_ ?_ _) | (with_reducible refine Below.drew ?_) | (with_reducible refine below_drewN ?_ _) | (with_reducible refine Below.setCell ?_ ?_ _) | (with_reducible refine below_call (by assumption) ?_ ?_) | (with_reducible exact Nat.le_refl _) | omega | (simp only [World.size_alloc, World.size_setCell, World.size_drew]; omega) | (simp; omega))))).trans ht1⟩
end Go.Proofs.Ytmpflnlajakibaa
