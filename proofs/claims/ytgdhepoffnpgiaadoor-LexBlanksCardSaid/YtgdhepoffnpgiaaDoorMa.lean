/- The walks of accordionlaw10's gives and fails. -/
import Derived.Test.YtgdhepoffnpgiaaDoorLz
namespace Go.Proofs.YtgdhepoffnpgiaaDoor
set_option linter.unusedVariables false
set_option linter.unusedSimpArgs false
open Go.RowKit Go.Shelf
theorem str_eq (a b : List UInt8) : ((⟨a.toArray⟩ : ByteArray).toList == (⟨b.toArray⟩ : ByteArray).toList) = decide (a = b) := by
  rw [Lib.toList_data, Lib.toList_data]
  by_cases h : a = b
  · subst h; simp
  · simp [h]
theorem tok_eql (a b : Tok) (W : World) : (binOp .eql 25 (tokV a) (tokV b)).run Tryd.prog W = .ok (.bool (decide (a = b))) W := by
  obtain ⟨a0, a1, a2, a3, a4, a5⟩ := a
  obtain ⟨b0, b1, b2, b3, b4, b5⟩ := b
  unfold tokV strV
  have e := str_eq a5 b5
  by_cases h0 : a0 = b0
  · by_cases h1 : a1 = b1
    · by_cases h2 : a2 = b2
      · by_cases h3 : a3 = b3
        · by_cases h4 : a4 = b4
          · by_cases h5 : a5 = b5
            · subst h0 h1 h2 h3 h4 h5
              simp [go_sem]
            · subst h0 h1 h2 h3 h4
              simp [go_sem, e, h5]
          · simp [go_sem, h0, h1, h2, h3, h4]
        · simp [go_sem, h0, h1, h2, h3]
      · simp [go_sem, h0, h1, h2]
    · simp [go_sem, h0, h1]
  · simp [go_sem, h0]
/-- Where a law stands: nothing that was there has turned, and the variables hold what they held. -/
structure WG (w0 w : World) : Prop where
  b : Below w0.heap.size w0 w
  g : Glb w
  gb : Gb w0.heap.size
theorem WG.refl {w : World} (hG : Glb w) (hB : Gb w.heap.size) : WG w w := ⟨Below.refl _ _, hG, hB⟩
theorem WG.next {w0 w w1 : World} (h : WG w0 w) (hb : Below w.heap.size w w1) : WG w0 w1 := ⟨h.b.trans (hb.mono h.b.size), h.g.below hb (h.gb.mono h.b.size), h.gb⟩
theorem WG.gw {w0 w : World} (h : WG w0 w) : Gb w.heap.size := h.gb.mono h.b.size
/-- gives, fails. -/
def giveB (s : List UInt8) (a : Int) (t : Tok) : Bool := decide (nextM s a = (t, 0))
def failB (s : List UInt8) (a p e : Int) : Bool := decide (nextM s a = (⟨0, p, p, 0, 0, []⟩, e))
set_option maxHeartbeats 4000000 in
set_option maxRecDepth 100000 in
theorem gives_any (s : List UInt8) (a : Int) (t : Tok) (w0 w : World) (hl : s.length ≤ 1073741824) (hW : WG w0 w) :
    Calls Tryd.prog 19 #[strV s, .int .i64 a, tokV t] w fun e w' => e = .returned (.bool (giveB s a t)) ∧ WG w0 w' := by
  have HN := next_any s a
  unfold giveB
  generalize nextM s a = r at *
  obtain ⟨r, re⟩ := r
  have heq := fun W => tok_eql r t W
  obtain ⟨r0, r1, r2, r3, r4, r5⟩ := r
  obtain ⟨t0, t1, t2, t3, t4, t5⟩ := t
  generalize hx : decide ((⟨r0, r1, r2, r3, r4, r5⟩ : Tok) = ⟨t0, t1, t2, t3, t4, t5⟩) = x at heq
  have HX := Lib.hid hx
  simp only [trV, tokV, strV] at HN heq ⊢
  have HN1 := Lib.hid HN
  have HW := Lib.hid hW
  clear HN hW hx
  by_cases hre : re = 0
  · subst hre
    have hres : decide (((⟨r0, r1, r2, r3, r4, r5⟩, 0) : TR) = (⟨t0, t1, t2, t3, t4, t5⟩, 0)) = x := by
      rw [← HX.out]
      simp only [Prod.mk.injEq, and_true]
    rw [hres]
    clear hres
    go_enter Tryd.func19, Tryd.ntmps19
    go_upto_region 1 with fail
    refine wp_named (fun wn => WG w0 wn ∧ wn.heap[w.heap.size]? = some (.cells #[.int .i64 t0, .int .i64 t1, .int .i64 t2, .int .i64 t3, .int .u64 t4, .string ⟨t5.toArray⟩] 25 (0, 0)) ∧ w.heap.size < wn.heap.size) ⟨HW.out.next ((Below.refl _ _).alloc (Nat.le_refl _) _), heap_alloc_new _ _, by simp⟩ ?_
    rintro wn ⟨h1, h2, h3⟩
    have HC := Lib.hid (HN1.out wn hl h1.g h1.gw)
    have H1 := Lib.hid (And.intro h1 h2)
    clear HN1 h1 h2
    go_wp2_with fail
    refine HC.out.mono ?_
    rintro e w1 ⟨rfl, hb⟩
    have k := (hb.block _ h3).trans H1.out.2
    have k0 : w1.cell? ⟨w.heap.size, 0, none⟩ = some (.int .i64 t0) := cell_of_row _ _ _ _ _ _ k
    have k1 : w1.cell? ⟨w.heap.size, 1, none⟩ = some (.int .i64 t1) := cell_of_row _ _ _ _ _ _ k
    have k2 : w1.cell? ⟨w.heap.size, 2, none⟩ = some (.int .i64 t2) := cell_of_row _ _ _ _ _ _ k
    have k3 : w1.cell? ⟨w.heap.size, 3, none⟩ = some (.int .i64 t3) := cell_of_row _ _ _ _ _ _ k
    have k4 : w1.cell? ⟨w.heap.size, 4, none⟩ = some (.int .u64 t4) := cell_of_row _ _ _ _ _ _ k
    have k5 : w1.cell? ⟨w.heap.size, 5, none⟩ = some (.string ⟨t5.toArray⟩) := cell_of_row _ _ _ _ _ _ k
    have k6 : w.heap.size < w1.heap.size := Nat.lt_of_lt_of_le h3 hb.size
    have HB := Lib.hid hb
    clear hb k
    cases x
    · go_wp2_with fail
      go_returns
      exact ⟨rfl, (H1.out.1.next HB.out).next ((Below.refl _ _).alloc (Nat.le_refl _) _)⟩
    · go_wp2_with fail
      go_returns
      exact ⟨rfl, (H1.out.1.next HB.out).next ((Below.refl _ _).alloc (Nat.le_refl _) _)⟩
  · have hre' : (re == 0) = false := by simpa using hre
    have hres : decide (((⟨r0, r1, r2, r3, r4, r5⟩, re) : TR) = (⟨t0, t1, t2, t3, t4, t5⟩, 0)) = false := by
      simp [hre]
    rw [hres]
    clear hres hre
    go_enter Tryd.func19, Tryd.ntmps19
    go_upto_region 1 with fail
    refine wp_named (fun wn => WG w0 wn ∧ wn.heap[w.heap.size]? = some (.cells #[.int .i64 t0, .int .i64 t1, .int .i64 t2, .int .i64 t3, .int .u64 t4, .string ⟨t5.toArray⟩] 25 (0, 0)) ∧ w.heap.size < wn.heap.size) ⟨HW.out.next ((Below.refl _ _).alloc (Nat.le_refl _) _), heap_alloc_new _ _, by simp⟩ ?_
    rintro wn ⟨h1, h2, h3⟩
    have HC := Lib.hid (HN1.out wn hl h1.g h1.gw)
    have H1 := Lib.hid (And.intro h1 h2)
    clear HN1 h1 h2
    go_wp2_with fail
    refine HC.out.mono ?_
    rintro e w1 ⟨rfl, hb⟩
    have k := (hb.block _ h3).trans H1.out.2
    have k0 : w1.cell? ⟨w.heap.size, 0, none⟩ = some (.int .i64 t0) := cell_of_row _ _ _ _ _ _ k
    have k1 : w1.cell? ⟨w.heap.size, 1, none⟩ = some (.int .i64 t1) := cell_of_row _ _ _ _ _ _ k
    have k2 : w1.cell? ⟨w.heap.size, 2, none⟩ = some (.int .i64 t2) := cell_of_row _ _ _ _ _ _ k
    have k3 : w1.cell? ⟨w.heap.size, 3, none⟩ = some (.int .i64 t3) := cell_of_row _ _ _ _ _ _ k
    have k4 : w1.cell? ⟨w.heap.size, 4, none⟩ = some (.int .u64 t4) := cell_of_row _ _ _ _ _ _ k
    have k5 : w1.cell? ⟨w.heap.size, 5, none⟩ = some (.string ⟨t5.toArray⟩) := cell_of_row _ _ _ _ _ _ k
    have k6 : w.heap.size < w1.heap.size := Nat.lt_of_lt_of_le h3 hb.size
    have HB := Lib.hid hb
    clear hb k
    cases x
    · go_wp2_with fail
      go_returns
      exact ⟨rfl, (H1.out.1.next HB.out).next ((Below.refl _ _).alloc (Nat.le_refl _) _)⟩
    · go_wp2_with fail
      go_returns
      exact ⟨rfl, (H1.out.1.next HB.out).next ((Below.refl _ _).alloc (Nat.le_refl _) _)⟩
set_option maxHeartbeats 4000000 in
set_option maxRecDepth 100000 in
theorem fails_any (s : List UInt8) (a p x : Int) (w0 w : World) (hl : s.length ≤ 1073741824) (hW : WG w0 w) :
    Calls Tryd.prog 16 #[strV s, .int .i64 a, .int .i64 p, .int .i64 x] w fun e w' => e = .returned (.bool (failB s a p x)) ∧ WG w0 w' := by
  have HN := next_any s a w hl hW.g hW.gw
  unfold failB
  generalize nextM s a = r at *
  obtain ⟨r, re⟩ := r
  have heq := fun W => tok_eql r ⟨0, p, p, 0, 0, []⟩ W
  obtain ⟨r0, r1, r2, r3, r4, r5⟩ := r
  generalize hx : decide ((⟨r0, r1, r2, r3, r4, r5⟩ : Tok) = ⟨0, p, p, 0, 0, []⟩) = b at heq
  have HX := Lib.hid hx
  simp only [trV, tokV, strV] at HN heq ⊢
  have HN1 := Lib.hid HN
  have HW := Lib.hid hW
  clear HN hW hx
  have hres : decide (((⟨r0, r1, r2, r3, r4, r5⟩, re) : TR) = (⟨0, p, p, 0, 0, []⟩, x)) = (b && (re == x)) := by
    rw [← HX.out, Bool.eq_iff_iff]
    simp only [decide_eq_true_eq, Prod.mk.injEq, Bool.and_eq_true, beq_iff_eq]
  rw [hres]
  clear hres
  cases b
  all_goals
    cases hb2 : re == x
    all_goals
      go_enter Tryd.func16, Tryd.ntmps16
      go_wp2_with fail
      refine HN1.out.mono ?_
      rintro e w1 ⟨rfl, hb⟩
      have HB := Lib.hid hb
      clear hb
      go_wp2_with fail
      go_returns
      exact ⟨rfl, (HW.out.next HB.out).next ((Below.refl _ _).alloc (Nat.le_refl _) _)⟩
end Go.Proofs.YtgdhepoffnpgiaaDoor
