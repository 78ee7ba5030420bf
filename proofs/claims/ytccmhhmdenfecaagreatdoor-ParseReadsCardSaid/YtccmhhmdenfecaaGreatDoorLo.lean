/- The walk of lex.reader's literal. What the package's variables hold. -/
import Derived.Test.YtccmhhmdenfecaaGreatDoorLn
import Derived.Deep.RegionHeld3
namespace Go.Proofs.YtccmhhmdenfecaaGreatDoor
set_option linter.unusedVariables false
set_option linter.unusedSimpArgs false
open Go.RowKit Go.Shelf
/-- What lex and utf read of package-level variables. -/
structure Glb (w : World) : Prop where
  tabs : Tabs w
  er : ∃ tp p, w.cell? ⟨5, 0, none⟩ = some (.iface tp p)
def Gb (B : Nat) : Prop := 1 < B ∧ 2 < B ∧ 5 < B
theorem Gb.mono {B B' : Nat} (h : Gb B) (hb : B ≤ B') : Gb B' := ⟨Nat.lt_of_lt_of_le h.1 hb, Nat.lt_of_lt_of_le h.2.1 hb, Nat.lt_of_lt_of_le h.2.2 hb⟩
theorem Glb.below {w w' : World} {B : Nat} (h : Glb w) (hb : Below B w w') (g : Gb B) : Glb w' := by
  refine ⟨h.tabs.below hb g.1 g.2.1, ?_⟩
  obtain ⟨tp, p, hc⟩ := h.er
  exact ⟨tp, p, (hb.cell (p := ⟨5, 0, none⟩) g.2.2).trans hc⟩
theorem Glb.tch {w w' : World} {B R : Nat} (h : Glb w) (hb : Tch B [R] w w') (g : Gb B) (r : Gb R) : Glb w' := by
  have hb2 : Below (min B R) w w' := ⟨hb.os, hb.tape, hb.output, hb.size, fun k hk => hb.block k (by omega) (by simp; omega)⟩
  refine h.below hb2 ⟨?_, ?_, ?_⟩
  · have := g.1; have := r.1; omega
  · have := g.2.1; have := r.2.1; omega
  · have := g.2.2; have := r.2.2; omega
theorem uq_bd : ∀ (l : List UInt8) (Q : UQ) (i : Int), 0 ≤ i → 0 ≤ (uqRun Q i l).2.1 ∧ (uqRun Q i l).2.1 ≤ i + l.length ∧ 0 ≤ (uqRun Q i l).2.2.1 ∧ (uqRun Q i l).2.2.1 ≤ i + l.length
  | [], Q, i, h => by simp [uqRun, h]
  | c :: l, Q, i, h => by
    rw [uqRun]
    cases takeQ Q c with
    | error e => simp only [List.length_cons]; omega
    | ok Q' =>
      dsimp only
      split
      · simp only [List.length_cons]; omega
      · have := uq_bd l Q' (i + 1) (by omega)
        simp only [List.length_cons]; omega
theorem unq_bd (l : List UInt8) : 0 ≤ (unqM l).2.1 ∧ (unqM l).2.1 ≤ l.length ∧ 0 ≤ (unqM l).2.2.1 ∧ (unqM l).2.2.1 ≤ l.length := by
  have := uq_bd l uq0 0 (by omega)
  unfold unqM; omega
set_option maxHeartbeats 4000000 in
set_option maxRecDepth 100000 in
theorem literal_any (l : List UInt8) (a : Nat) (R : Nat) (w : World) (h : LRow w R l a a) (hl : l.length ≤ 1073741824) (ha : a ≤ l.length) (hG : Glb w) (hB : Gb w.heap.size) :
    Calls Tryz.prog 72 #[.pointer (some ⟨R, 0, none⟩)] w fun o w' => o = .returned (trV (litM (l.drop a) a)) ∧ Tch w.heap.size [R] w w' := by
  have hRw := h.lt
  have Hh := Lib.hid h
  clear h
  have hdl : (l.drop a).length ≤ 1073741824 := by rw [List.length_drop]; omega
  have HU := Lib.hid fun W (hg : Glb W) (hb : Gb W.heap.size) => unq_any (l.drop a) hdl W hg.tabs hb.1 hb.2.1
  have hsl := fun W => sub_from l a ha W
  have hbd := unq_bd (l.drop a)
  rw [List.length_drop] at hbd
  unfold litM
  generalize unqM (l.drop a) = q at *
  obtain ⟨t, n, k, er⟩ := q
  unfold strV at HU
  dsimp only at hbd HU ⊢
  generalize l.drop a = d at *
  obtain ⟨b1, b2, b3, b4⟩ := hbd
  generalize hres : (if er ≠ 0 then wrongT ((a : Int) + k) er else (⟨12, (a : Int), (a : Int) + n, 0, 0, t⟩, 0)) = res
  have HR := Lib.hid hres
  clear hres
  clear hdl
  go_enter Tryz.func72, Tryz.ntmps72
  go_upto_region 1 with fail
  refine wp_named (fun wn => Tch w.heap.size [R] w wn ∧ w.heap.size < wn.heap.size ∧ Zero6 wn w.heap.size ∧ LRow wn R l a a ∧ Glb wn ∧ Gb wn.heap.size) ⟨(Tch.refl _ _ w).alloc (Nat.le_refl _) _, by simp, heap_alloc_new _ _, (Lib.alloc_old w _ R hRw).trans Hh.out, hG.below ((Below.refl _ w).alloc (Nat.le_refl _) _) hB, hB.mono (by simp)⟩ ?_
  rintro wn ⟨h1, h2, h3, h4, h5, h6⟩
  obtain ⟨c0, c1, -, -⟩ := h4.cells
  unfold strV at c0
  have H1 := Lib.hid (And.intro h1 (And.intro h3 (And.intro h4 (And.intro h5 h6))))
  have hRn : R < wn.heap.size := h4.lt
  clear h1 h3 h4 h5 h6 hB hG
  go_region_held3 (fun w' => w'.cell? ⟨R, 0, none⟩ = some (.string ⟨l.toArray⟩) ∧ w'.cell? ⟨R, 1, none⟩ = some (.int .i64 a)) (first | exact ⟨c0, c1⟩ | exact ⟨k0, k1⟩ | (refine ⟨?_, ?_⟩ <;> go_keep)) ((go_at_call 105; refine (HU.out _ (H1.out.2.2.2.1.below (Below.refl _ _).drew H1.out.2.2.2.2) (H1.out.2.2.2.2.mono (by simp))).mono ?_; rintro e w1 ⟨rfl, hb1⟩; have k0 : w1.cell? ⟨R, 0, none⟩ = some (.string ⟨l.toArray⟩) := (hb1.cell (p := ⟨R, 0, none⟩) hRn).trans c0; have k1 : w1.cell? ⟨R, 1, none⟩ = some (.int .i64 a) := (hb1.cell (p := ⟨R, 1, none⟩) hRn).trans c1))
  have hz1 : w.heap.size < w1.heap.size := Nat.lt_of_lt_of_le h2 hb1.size
  have hg1 : Zero6 w1 w.heap.size := (hb1.block _ h2).trans H1.out.2.1
  have hr1 : LRow w1 R l a a := (hb1.block _ hRn).trans H1.out.2.2.1
  have ht1 : Tch w.heap.size [R] w w1 := H1.out.1.drew.trans (Below.tch (hb1.mono (Nat.le_of_lt h2)))
  have hRg : R ≠ w.heap.size := by omega
  clear k0 k1 c0 c1 hb1 HU H1
  rename_i hh
  clear hh
  by_cases her : er = 0
  · subst her
    obtain ⟨c0, c1, -, cf⟩ := hr1.cells
    have f1 := cf 1
    have q1 : IntKind.i64.wrap ((a : Int) + n) = a + n := IntWalk.i64_in _ (by omega)
    have hr2 : LRow (w1.setCell ⟨R, 1, none⟩ (.int .i64 ((a : Int) + n))) R l (a + n) a := hr1.at_ _
    have hg2' : Zero6 (w1.setCell ⟨R, 1, none⟩ (.int .i64 ((a : Int) + n))) w.heap.size := (Below.heap_setCell _ _ _ _ (Ne.symm hRg)).trans hg1
    have H3 := Lib.hid (And.intro (ht1.set (p := ⟨R, 1, none⟩) (.inl (by simp)) (.int .i64 ((a : Int) + n))) hg2')
    have HT := Lib.hid (token_any l ⟨12, 0, 0, 0, 0, t⟩ ((a : Int) + n) a R _ hr2)
    unfold tokV strV at HT
    clear ht1 hg1 hr1 hr2 hg2' cf c0
    go_wp2_with fail
    refine HT.out.mono ?_
    rintro o w2 ⟨rfl, hb2⟩
    have hz2' : w.heap.size < (w1.setCell ⟨R, 1, none⟩ (.int .i64 ((a : Int) + n))).heap.size := by simpa using hz1
    have hg2 : Zero6 w2 w.heap.size := (hb2.block _ hz2').trans H3.out.2
    have H2 := Lib.hid (H3.out.1.quiet hb2 (by omega))
    clear hb2 HT c1 f1
    obtain ⟨n0, n1, n2, n3, n4, n5, hfz⟩ := hg2.cells
    have f0 := hfz 0
    have f1 := hfz 1
    have f2 := hfz 2
    have f3 := hfz 3
    have f4 := hfz 4
    have f5 := hfz 5
    clear hg2 hfz
    unfold trV tokV strV
    go_wp2_with fail
    refine bodyPost_ret (v := trV (⟨12, a, a + n, 0, 0, t⟩, 0)) (by simp [results, Tryz.results72, go_sem, trV, tokV, strV, *]) rfl ?_
    exact ⟨by rw [← HR.out, if_neg (fun h => h rfl)], set6 H2.out (Nat.le_refl _) _ _ _ _ _ _⟩
  · have HR2 := Lib.hid (HR.out.symm.trans (if_pos her))
    clear HR
    obtain ⟨c0, c1, -, cf⟩ := hr1.cells
    have q1 : IntKind.i64.wrap ((a : Int) + k) = a + k := IntWalk.i64_in _ (by omega)
    have her' : (er != 0) = true := by simpa using her
    have H3 := Lib.hid (And.intro ht1 hg1)
    clear ht1 hg1 hr1 cf c0 her
    go_wp2_with fail
    refine (wrong_any _ _ _).mono ?_
    rintro o w2 ⟨rfl, hb2⟩
    have hg2 : Zero6 w2 w.heap.size := (hb2.block _ hz1).trans H3.out.2
    have H2 := Lib.hid (H3.out.1.quiet hb2 (by omega))
    clear hb2 c1
    unfold wrongT
    obtain ⟨n0, n1, n2, n3, n4, n5, hfz⟩ := hg2.cells
    have f0 := hfz 0
    have f1 := hfz 1
    have f2 := hfz 2
    have f3 := hfz 3
    have f4 := hfz 4
    have f5 := hfz 5
    clear hg2 hfz
    unfold trV tokV strV
    go_wp2_with fail
    refine bodyPost_ret (v := trV (wrongT (a + k) er)) (by simp [results, Tryz.results72, go_sem, trV, tokV, strV, wrongT, *]) rfl ?_
    exact ⟨by rw [HR2.out], set6 H2.out (Nat.le_refl _) _ _ _ _ _ _⟩
end Go.Proofs.YtccmhhmdenfecaaGreatDoor
