/- The walk of accordionlaw10.word. -/
import Derived.Test.YtgdhepoffnpgiaaDoorPd
import Derived.Test.YtgdhepoffnpgiaaDoorPa
import Derived.Test.YtgdhepoffnpgiaaDoorNe
namespace Go.Proofs.YtgdhepoffnpgiaaDoor
set_option linter.unusedVariables false
set_option linter.unusedSimpArgs false
open Go.RowKit Go.Shelf
/-- word's blocks: its argument at N, its result behind it, its token at T. -/
structure WS (w0 w : World) (a0 a1 : Int) (N : Nat) : Prop where
  g : WG w0 w
  lo : w0.heap.size ≤ N
  z : N + 1 < w.heap.size
  n : w.heap[N]? = some (.cells #[.int .i64 a0, .int .i64 a1] 53 (0, 0))
  q : Zero6 w (N + 1)
theorem WS.next {w0 w w1 : World} {a0 a1 : Int} {N : Nat} (h : WS w0 w a0 a1 N) (hb : Below w.heap.size w w1) : WS w0 w1 a0 a1 N :=
  ⟨h.g.next hb, h.lo, Nat.lt_of_lt_of_le h.z hb.size, (hb.block _ (by have := h.z; omega)).trans h.n, (hb.block _ h.z).trans h.q⟩
theorem WS.c0 {w0 w : World} {a0 a1 : Int} {N : Nat} (h : WS w0 w a0 a1 N) : w.cell? ⟨N, 0, none⟩ = some (.int .i64 a0) ∧ w.cell? ⟨N, 1, none⟩ = some (.int .i64 a1) := ⟨cell_of_row _ _ 0 _ _ _ h.n, cell_of_row _ _ 1 _ _ _ h.n⟩
theorem WS.start {w0 w : World} (hW : WG w0 w) (a0 a1 : Int) : WS w0 ((w.alloc (.cells #[.int .i64 a0, .int .i64 a1] 53 (0, 0))).alloc (.cells #[.int .i64 0, .int .i64 0, .int .i64 0, .int .i64 0, .int .u64 0, .string .empty] 25 (0, 0))) a0 a1 w.heap.size := by
  refine ⟨(hW.next ((Below.refl _ _).alloc (Nat.le_refl _) _)).next ((Below.refl _ _).alloc (Nat.le_refl _) _), hW.b.size, by simp, (Lib.alloc_old _ _ _ (by simp)).trans (heap_alloc_new _ _), ?_⟩
  have := heap_alloc_new (w.alloc (.cells #[.int .i64 a0, .int .i64 a1] 53 (0, 0))) (.cells #[.int .i64 0, .int .i64 0, .int .i64 0, .int .i64 0, .int .u64 0, .string .empty] 25 (0, 0))
  rw [World.size_alloc] at this
  exact this
structure WT (w0 w : World) (a0 a1 : Int) (N T : Nat) (t0 t1 t2 t3 t4 : Int) (t5 : List UInt8) : Prop where
  s : WS w0 w a0 a1 N
  t : TCell w T 25 t0 t1 t2 t3 t4 t5
  lo : w0.heap.size ≤ T
  ne : T ≠ N ∧ T ≠ N + 1
theorem WT.next {w0 w w1 : World} {a0 a1 : Int} {N T : Nat} {t0 t1 t2 t3 t4 : Int} {t5 : List UInt8} (h : WT w0 w a0 a1 N T t0 t1 t2 t3 t4 t5) (hb : Below w.heap.size w w1) : WT w0 w1 a0 a1 N T t0 t1 t2 t3 t4 t5 :=
  ⟨h.s.next hb, h.t.next hb, h.lo, h.ne⟩
/-- Storing into the token. -/
theorem WT.set {w0 w : World} {a0 a1 : Int} {N T : Nat} {t0 t1 t2 t3 t4 : Int} {t5 : List UInt8} (h : WT w0 w a0 a1 N T t0 t1 t2 t3 t4 t5) (i : Nat) (v : Value) (s3 s4 : Int) (s5 : List UInt8)
    (he : (#[.int .i64 t0, .int .i64 t1, .int .i64 t2, .int .i64 t3, .int .u64 t4, .string ⟨t5.toArray⟩] : Array Value).setIfInBounds i v = #[.int .i64 t0, .int .i64 t1, .int .i64 t2, .int .i64 s3, .int .u64 s4, .string ⟨s5.toArray⟩]) : WT w0 (w.setCell ⟨T, i, none⟩ v) a0 a1 N T t0 t1 t2 s3 s4 s5 := by
  have hb : Below w0.heap.size w0 (w.setCell ⟨T, i, none⟩ v) := h.s.g.b.setCell (p := ⟨T, i, none⟩) h.lo v
  have hsz : (w.setCell ⟨T, i, none⟩ v).heap.size = w.heap.size := by simp [World.setCell]
  have hg : Glb (w.setCell ⟨T, i, none⟩ v) := h.s.g.g.below (B := w0.heap.size) ((Below.refl _ _).setCell (p := ⟨T, i, none⟩) h.lo v) h.s.g.gb
  refine ⟨⟨⟨hb, hg, h.s.g.gb⟩, h.s.lo, by rw [hsz]; exact h.s.z, ?_, ?_⟩, ⟨by rw [hsz]; exact h.t.1, ?_⟩, h.lo, h.ne⟩
  · rw [Below.heap_setCell _ _ _ _ (by simpa using h.ne.1.symm)]
    exact h.s.n
  · unfold Zero6
    rw [Below.heap_setCell _ _ _ _ (by simpa using h.ne.2.symm)]
    exact h.s.q
  · rw [row_set i v h.t.2, he]
theorem WS.store {w0 w : World} {a0 a1 : Int} {N : Nat} (h : WS w0 w a0 a1 N) (s0 s1 s2 s3 s4 : Int) (s5 : List UInt8) :
    TCell ((((((w.setCell ⟨N + 1, 0, none⟩ (.int .i64 s0)).setCell ⟨N + 1, 1, none⟩ (.int .i64 s1)).setCell ⟨N + 1, 2, none⟩ (.int .i64 s2)).setCell ⟨N + 1, 3, none⟩ (.int .i64 s3)).setCell ⟨N + 1, 4, none⟩ (.int .u64 s4)).setCell ⟨N + 1, 5, none⟩ (.string ⟨s5.toArray⟩)) (N + 1) 25 s0 s1 s2 s3 s4 s5 ∧
    WG w0 ((((((w.setCell ⟨N + 1, 0, none⟩ (.int .i64 s0)).setCell ⟨N + 1, 1, none⟩ (.int .i64 s1)).setCell ⟨N + 1, 2, none⟩ (.int .i64 s2)).setCell ⟨N + 1, 3, none⟩ (.int .i64 s3)).setCell ⟨N + 1, 4, none⟩ (.int .u64 s4)).setCell ⟨N + 1, 5, none⟩ (.string ⟨s5.toArray⟩)) := by
  have hlo : w0.heap.size ≤ N + 1 := by have := h.lo; omega
  refine ⟨⟨by simp [World.setCell]; exact h.z, ?_⟩, ⟨setR h.g.b hlo _ _ _ _ _ _, h.g.g.below (B := w0.heap.size) (setR (Below.refl _ _) hlo _ _ _ _ _ _) h.g.gb, h.g.gb⟩⟩
  exact row_set 5 _ (row_set 4 _ (row_set 3 _ (row_set 2 _ (row_set 1 _ (row_set 0 _ h.q)))))
theorem then_named {K : Act → World → Prop} {Q : Exit → Act → World → Prop} {a : Act} {w : World} (R : World → Prop) (h : R w) (k : ∀ w, R w → Exit.then K Q Exit.normal a w) : Exit.then K Q Exit.normal a w := k w h
def wsp : List (List UInt8) := [[], [123], [125], [91], [93], [44], [58], [110, 117, 108, 108], [102, 97, 108, 115, 101], [116, 114, 117, 101]]
theorem wsp_ok {k : Nat} (h0 : 1 ≤ k) (h1 : k ≤ 9) : WordOk ⟨⟨k, 0, 0, 0, 0, []⟩, wsp.getD k []⟩ := by
  have : k = 1 ∨ k = 2 ∨ k = 3 ∨ k = 4 ∨ k = 5 ∨ k = 6 ∨ k = 7 ∨ k = 8 ∨ k = 9 := by omega
  rcases this with rfl | rfl | rfl | rfl | rfl | rfl | rfl | rfl | rfl <;> exact fixed_ok (by decide) (by decide) (by decide) (by decide)
/-- What word hands back. -/
def WordPost (w0 : World) (e : Ending) (w' : World) : Prop := ∃ W : Word, WordOk W ∧ e = .returned (.tuple #[.agg #[.int .i64 W.t.kind, .int .i64 0, .int .i64 0, .int .i64 W.t.n, .int .u64 W.t.u, .string ⟨W.t.text.toArray⟩], .string ⟨W.x.toArray⟩]) ∧ WG w0 w'
set_option maxHeartbeats 16000000 in
set_option maxRecDepth 100000 in
theorem word_fixed (a0 a1 : Int) (h0 : -9223372036854775808 ≤ a0) (h1 : a0 ≤ 9223372036854775807) (hk : a0 % 12 < 9) (w0 w : World) (hW : WG w0 w) : Calls Tryd.prog 22 #[.agg #[.int .i64 a0, .int .i64 a1]] w (WordPost w0) := by
  have HB := Lib.hid (fun W => bring_any a0 12 (by omega) (by omega) h0 h1 W)
  have hm := Int.emod_nonneg a0 (show (12 : Int) ≠ 0 by omega)
  obtain ⟨k, hkk⟩ : ∃ k : Nat, (k : Int) = 1 + a0 % 12 := ⟨(1 + a0 % 12).toNat, by omega⟩
  generalize a0 % 12 = m at *
  have q1 : IntKind.i64.wrap (1 + m) = (k : Int) := by rw [IntWalk.i64_in _ (by omega)]; omega
  have hk1 : 1 ≤ k := by omega
  have hk9 : k ≤ 9 := by omega
  have e10 : ((k : Int) == 10) = false := by simp only [beq_eq_false_iff_ne, ne_eq]; omega
  have e11 : ((k : Int) == 11) = false := by simp only [beq_eq_false_iff_ne, ne_eq]; omega
  have e12 : ((k : Int) == 12) = false := by simp only [beq_eq_false_iff_ne, ne_eq]; omega
  have H0 := Lib.hid hW
  have hlo := hW.b.size
  clear hkk hm hW h0 h1 hk
  go_enter Tryd.func22, Tryd.ntmps22
  go_upto_region 1 with fail
  refine wp_named (fun wn => WS w0 wn a0 a1 w.heap.size) (WS.start H0.out a0 a1) ?_
  clear H0 hlo
  generalize w.heap.size = N at *
  rintro wn hS
  obtain ⟨c0, c1⟩ := hS.c0
  have HS := Lib.hid hS
  clear hS
  go_wp2_with fail
  refine (HB.out _).mono ?_
  rintro e w1 ⟨rfl, rfl⟩
  go_upto_region 3 with fail
  refine wp_named (fun wn => WT w0 wn a0 a1 N w1.heap.size k 0 0 0 0 []) ⟨HS.out.next ((Below.refl _ _).alloc (Nat.le_refl _) _), TCell.new _ _ _ _ _ _ _ _, HS.out.g.b.size, by have := HS.out.z; omega, by have := HS.out.z; omega⟩ ?_
  clear c0 c1 HS HB
  generalize w1.heap.size = T at *
  rintro wm hT
  obtain ⟨v0, v1, v2, v3, v4, v5⟩ := hT.t.cells
  obtain ⟨n0, n1, n2, n3, n4, n5, hfz⟩ := hT.s.q.cells
  have f0 := hfz 0
  have f1 := hfz 1
  have f2 := hfz 2
  have f3 := hfz 3
  have f4 := hfz 4
  have f5 := hfz 5
  have hco : ∀ (o : Obj) (i : Nat), (wm.alloc o).cell? ⟨T, i, none⟩ = wm.cell? ⟨T, i, none⟩ := fun o i => ((Below.refl wm.heap.size wm).alloc (Nat.le_refl _) o).cell (p := ⟨T, i, none⟩) hT.t.1
  have hcq : ∀ (o : Obj) (i : Nat), (wm.alloc o).cell? ⟨N + 1, i, none⟩ = wm.cell? ⟨N + 1, i, none⟩ := fun o i => ((Below.refl wm.heap.size wm).alloc (Nat.le_refl _) o).cell (p := ⟨N + 1, i, none⟩) hT.s.z
  have hfq : ∀ (o : Obj) (i : Nat), (wm.alloc o).frozen? ⟨N + 1, i, none⟩ = false := fun o i => Lib.frozen_of_heap ((Lib.alloc_old wm o _ hT.s.z).trans hT.s.q) i
  have hzz : N + 1 < wm.heap.size := hT.s.z
  have hz1 : ¬ wm.heap.size = N + 1 := by omega
  have hz2 : ¬ N + 1 = wm.heap.size := by omega
  have hz3 : T < wm.heap.size := hT.t.1
  have hz4 : ¬ T = N + 1 := hT.ne.2
  have HT := Lib.hid hT
  clear hfz hT
  go_upto_region 13 with fail
  have hk : k = 1 ∨ k = 2 ∨ k = 3 ∨ k = 4 ∨ k = 5 ∨ k = 6 ∨ k = 7 ∨ k = 8 ∨ k = 9 := by omega
  clear e10 e11 e12 q1 hk1 hk9
  rcases hk with rfl | rfl | rfl | rfl | rfl | rfl | rfl | rfl | rfl
  · go_region
    all_goals
      clear n0 n1 n2 n3 n4 n5 f0 f1 f2 f3 f4 f5 v0 v1 v2 v3 v4 v5 hco hcq hfq hzz hz1 hz2 hz3 hz4
      have hst := HT.out.s.store 1 0 0 0 0 []
      refine then_named (fun W => TCell W (N + 1) 25 1 0 0 0 0 [] ∧ WG w0 W) ⟨hst.1.next (below_drew1 ((Below.refl _ _).alloc (Nat.le_refl _) _)), hst.2.next (below_drew1 ((Below.refl _ _).alloc (Nat.le_refl _) _))⟩ ?_
      clear hst
      rintro w9 ⟨ht, hg⟩
      obtain ⟨c0, c1, c2, c3, c4, c5⟩ := ht.cells
      have HG := Lib.hid hg
      clear hg
      go_wp2_with fail
      refine bodyPost_ret (v := .tuple #[.agg #[.int .i64 1, .int .i64 0, .int .i64 0, .int .i64 0, .int .u64 0, .string ⟨#[]⟩], .string ⟨#[123]⟩]) (by simp [results, Tryd.results22, go_sem, *]) rfl ?_
      exact ⟨⟨⟨1, 0, 0, 0, 0, []⟩, [123]⟩, wsp_ok (k := 1) (by omega) (by omega), rfl, HG.out⟩
  · go_region
    all_goals
      clear n0 n1 n2 n3 n4 n5 f0 f1 f2 f3 f4 f5 v0 v1 v2 v3 v4 v5 hco hcq hfq hzz hz1 hz2 hz3 hz4
      have hst := HT.out.s.store 2 0 0 0 0 []
      refine then_named (fun W => TCell W (N + 1) 25 2 0 0 0 0 [] ∧ WG w0 W) ⟨hst.1.next (below_drew1 ((Below.refl _ _).alloc (Nat.le_refl _) _)), hst.2.next (below_drew1 ((Below.refl _ _).alloc (Nat.le_refl _) _))⟩ ?_
      clear hst
      rintro w9 ⟨ht, hg⟩
      obtain ⟨c0, c1, c2, c3, c4, c5⟩ := ht.cells
      have HG := Lib.hid hg
      clear hg
      go_wp2_with fail
      refine bodyPost_ret (v := .tuple #[.agg #[.int .i64 2, .int .i64 0, .int .i64 0, .int .i64 0, .int .u64 0, .string ⟨#[]⟩], .string ⟨#[125]⟩]) (by simp [results, Tryd.results22, go_sem, *]) rfl ?_
      exact ⟨⟨⟨2, 0, 0, 0, 0, []⟩, [125]⟩, wsp_ok (k := 2) (by omega) (by omega), rfl, HG.out⟩
  · go_region
    all_goals
      clear n0 n1 n2 n3 n4 n5 f0 f1 f2 f3 f4 f5 v0 v1 v2 v3 v4 v5 hco hcq hfq hzz hz1 hz2 hz3 hz4
      have hst := HT.out.s.store 3 0 0 0 0 []
      refine then_named (fun W => TCell W (N + 1) 25 3 0 0 0 0 [] ∧ WG w0 W) ⟨hst.1.next (below_drew1 ((Below.refl _ _).alloc (Nat.le_refl _) _)), hst.2.next (below_drew1 ((Below.refl _ _).alloc (Nat.le_refl _) _))⟩ ?_
      clear hst
      rintro w9 ⟨ht, hg⟩
      obtain ⟨c0, c1, c2, c3, c4, c5⟩ := ht.cells
      have HG := Lib.hid hg
      clear hg
      go_wp2_with fail
      refine bodyPost_ret (v := .tuple #[.agg #[.int .i64 3, .int .i64 0, .int .i64 0, .int .i64 0, .int .u64 0, .string ⟨#[]⟩], .string ⟨#[91]⟩]) (by simp [results, Tryd.results22, go_sem, *]) rfl ?_
      exact ⟨⟨⟨3, 0, 0, 0, 0, []⟩, [91]⟩, wsp_ok (k := 3) (by omega) (by omega), rfl, HG.out⟩
  · go_region
    all_goals
      clear n0 n1 n2 n3 n4 n5 f0 f1 f2 f3 f4 f5 v0 v1 v2 v3 v4 v5 hco hcq hfq hzz hz1 hz2 hz3 hz4
      have hst := HT.out.s.store 4 0 0 0 0 []
      refine then_named (fun W => TCell W (N + 1) 25 4 0 0 0 0 [] ∧ WG w0 W) ⟨hst.1.next (below_drew1 ((Below.refl _ _).alloc (Nat.le_refl _) _)), hst.2.next (below_drew1 ((Below.refl _ _).alloc (Nat.le_refl _) _))⟩ ?_
      clear hst
      rintro w9 ⟨ht, hg⟩
      obtain ⟨c0, c1, c2, c3, c4, c5⟩ := ht.cells
      have HG := Lib.hid hg
      clear hg
      go_wp2_with fail
      refine bodyPost_ret (v := .tuple #[.agg #[.int .i64 4, .int .i64 0, .int .i64 0, .int .i64 0, .int .u64 0, .string ⟨#[]⟩], .string ⟨#[93]⟩]) (by simp [results, Tryd.results22, go_sem, *]) rfl ?_
      exact ⟨⟨⟨4, 0, 0, 0, 0, []⟩, [93]⟩, wsp_ok (k := 4) (by omega) (by omega), rfl, HG.out⟩
  · go_region
    all_goals
      clear n0 n1 n2 n3 n4 n5 f0 f1 f2 f3 f4 f5 v0 v1 v2 v3 v4 v5 hco hcq hfq hzz hz1 hz2 hz3 hz4
      have hst := HT.out.s.store 5 0 0 0 0 []
      refine then_named (fun W => TCell W (N + 1) 25 5 0 0 0 0 [] ∧ WG w0 W) ⟨hst.1.next (below_drew1 ((Below.refl _ _).alloc (Nat.le_refl _) _)), hst.2.next (below_drew1 ((Below.refl _ _).alloc (Nat.le_refl _) _))⟩ ?_
      clear hst
      rintro w9 ⟨ht, hg⟩
      obtain ⟨c0, c1, c2, c3, c4, c5⟩ := ht.cells
      have HG := Lib.hid hg
      clear hg
      go_wp2_with fail
      refine bodyPost_ret (v := .tuple #[.agg #[.int .i64 5, .int .i64 0, .int .i64 0, .int .i64 0, .int .u64 0, .string ⟨#[]⟩], .string ⟨#[44]⟩]) (by simp [results, Tryd.results22, go_sem, *]) rfl ?_
      exact ⟨⟨⟨5, 0, 0, 0, 0, []⟩, [44]⟩, wsp_ok (k := 5) (by omega) (by omega), rfl, HG.out⟩
  · go_region
    all_goals
      clear n0 n1 n2 n3 n4 n5 f0 f1 f2 f3 f4 f5 v0 v1 v2 v3 v4 v5 hco hcq hfq hzz hz1 hz2 hz3 hz4
      have hst := HT.out.s.store 6 0 0 0 0 []
      refine then_named (fun W => TCell W (N + 1) 25 6 0 0 0 0 [] ∧ WG w0 W) ⟨hst.1.next (below_drew1 ((Below.refl _ _).alloc (Nat.le_refl _) _)), hst.2.next (below_drew1 ((Below.refl _ _).alloc (Nat.le_refl _) _))⟩ ?_
      clear hst
      rintro w9 ⟨ht, hg⟩
      obtain ⟨c0, c1, c2, c3, c4, c5⟩ := ht.cells
      have HG := Lib.hid hg
      clear hg
      go_wp2_with fail
      refine bodyPost_ret (v := .tuple #[.agg #[.int .i64 6, .int .i64 0, .int .i64 0, .int .i64 0, .int .u64 0, .string ⟨#[]⟩], .string ⟨#[58]⟩]) (by simp [results, Tryd.results22, go_sem, *]) rfl ?_
      exact ⟨⟨⟨6, 0, 0, 0, 0, []⟩, [58]⟩, wsp_ok (k := 6) (by omega) (by omega), rfl, HG.out⟩
  · go_region
    all_goals
      clear n0 n1 n2 n3 n4 n5 f0 f1 f2 f3 f4 f5 v0 v1 v2 v3 v4 v5 hco hcq hfq hzz hz1 hz2 hz3 hz4
      have hst := HT.out.s.store 7 0 0 0 0 []
      refine then_named (fun W => TCell W (N + 1) 25 7 0 0 0 0 [] ∧ WG w0 W) ⟨hst.1.next (below_drew1 ((Below.refl _ _).alloc (Nat.le_refl _) _)), hst.2.next (below_drew1 ((Below.refl _ _).alloc (Nat.le_refl _) _))⟩ ?_
      clear hst
      rintro w9 ⟨ht, hg⟩
      obtain ⟨c0, c1, c2, c3, c4, c5⟩ := ht.cells
      have HG := Lib.hid hg
      clear hg
      go_wp2_with fail
      refine bodyPost_ret (v := .tuple #[.agg #[.int .i64 7, .int .i64 0, .int .i64 0, .int .i64 0, .int .u64 0, .string ⟨#[]⟩], .string ⟨#[110, 117, 108, 108]⟩]) (by simp [results, Tryd.results22, go_sem, *]) rfl ?_
      exact ⟨⟨⟨7, 0, 0, 0, 0, []⟩, [110, 117, 108, 108]⟩, wsp_ok (k := 7) (by omega) (by omega), rfl, HG.out⟩
  · go_region
    all_goals
      clear n0 n1 n2 n3 n4 n5 f0 f1 f2 f3 f4 f5 v0 v1 v2 v3 v4 v5 hco hcq hfq hzz hz1 hz2 hz3 hz4
      have hst := HT.out.s.store 8 0 0 0 0 []
      refine then_named (fun W => TCell W (N + 1) 25 8 0 0 0 0 [] ∧ WG w0 W) ⟨hst.1.next (below_drew1 ((Below.refl _ _).alloc (Nat.le_refl _) _)), hst.2.next (below_drew1 ((Below.refl _ _).alloc (Nat.le_refl _) _))⟩ ?_
      clear hst
      rintro w9 ⟨ht, hg⟩
      obtain ⟨c0, c1, c2, c3, c4, c5⟩ := ht.cells
      have HG := Lib.hid hg
      clear hg
      go_wp2_with fail
      refine bodyPost_ret (v := .tuple #[.agg #[.int .i64 8, .int .i64 0, .int .i64 0, .int .i64 0, .int .u64 0, .string ⟨#[]⟩], .string ⟨#[102, 97, 108, 115, 101]⟩]) (by simp [results, Tryd.results22, go_sem, *]) rfl ?_
      exact ⟨⟨⟨8, 0, 0, 0, 0, []⟩, [102, 97, 108, 115, 101]⟩, wsp_ok (k := 8) (by omega) (by omega), rfl, HG.out⟩
  · go_region
    all_goals
      clear n0 n1 n2 n3 n4 n5 f0 f1 f2 f3 f4 f5 v0 v1 v2 v3 v4 v5 hco hcq hfq hzz hz1 hz2 hz3 hz4
      have hst := HT.out.s.store 9 0 0 0 0 []
      refine then_named (fun W => TCell W (N + 1) 25 9 0 0 0 0 [] ∧ WG w0 W) ⟨hst.1.next (below_drew1 ((Below.refl _ _).alloc (Nat.le_refl _) _)), hst.2.next (below_drew1 ((Below.refl _ _).alloc (Nat.le_refl _) _))⟩ ?_
      clear hst
      rintro w9 ⟨ht, hg⟩
      obtain ⟨c0, c1, c2, c3, c4, c5⟩ := ht.cells
      have HG := Lib.hid hg
      clear hg
      go_wp2_with fail
      refine bodyPost_ret (v := .tuple #[.agg #[.int .i64 9, .int .i64 0, .int .i64 0, .int .i64 0, .int .u64 0, .string ⟨#[]⟩], .string ⟨#[116, 114, 117, 101]⟩]) (by simp [results, Tryd.results22, go_sem, *]) rfl ?_
      exact ⟨⟨⟨9, 0, 0, 0, 0, []⟩, [116, 114, 117, 101]⟩, wsp_ok (k := 9) (by omega) (by omega), rfl, HG.out⟩
end Go.Proofs.YtgdhepoffnpgiaaDoor
