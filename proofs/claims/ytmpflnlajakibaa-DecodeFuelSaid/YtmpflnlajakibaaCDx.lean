/- The ten small documents of the chapter: what the plain model answers. The examples of the chapter: num, example. The walks of reads and fails. -/
import Derived.Test.YtmpflnlajakibaaC12
import Derived.Test.YtmpflnlajakibaaCDk
import Derived.Test.YtmpflnlajakibaaClm
namespace Go.Proofs.Ytmpflnlajakibaa
set_option linter.unusedVariables false
set_option linter.unusedSimpArgs false
section
open Go.RowKit
def exDoc : List UInt8 := [97, 0, 98, 0, 2, 5, 4, 2, 1, 2, 0, 1, 0, 4, 4, 36, 1]
def exTree : DT := .mk 17 0 0 [] [[97], [98]] [.mk 1 0 0 [] [] [], .mk 3 1 0 [] [] []]
theorem ev1 : docD exDoc 9 = (exTree, 6, 0, 0) := by kernel_rfl
theorem ev2 : docD exDoc 2 = (zeroT, 0, 11, 260) := by kernel_rfl
theorem ev3 : docD exDoc 3 = (exTree, 0, 0, 0) := by kernel_rfl
theorem ev4 : docD (exDoc.set 8 2) 9 = (zeroT, 0, 5, 212) := by kernel_rfl
theorem ev5 : docD (exDoc.set 4 3) 9 = (zeroT, 0, 5, 214) := by kernel_rfl
theorem ev6 : docD (exDoc.set 6 5) 9 = (zeroT, 0, 6, 215) := by kernel_rfl
theorem ev7 : docD (exDoc.set 7 0) 9 = (zeroT, 0, 7, 214) := by kernel_rfl
theorem ev8 : docD (exDoc.set 6 6) 9 = (zeroT, 0, 6, 215) := by kernel_rfl
theorem ev9 : docD (exDoc.set 12 12) 9 = (zeroT, 0, 12, 20) := by kernel_rfl
theorem ev10 : docD [1, 0, 40, 2, 40, 1] 9 = (zeroT, 0, 1, 211) := by kernel_rfl
theorem ev11 : docD [4, 1] 9 = (zeroT, 0, 0, 210) := by kernel_rfl
theorem ev12 : docD [5, 12, 1] 9 = (zeroT, 0, 1, 20) := by kernel_rfl
end
section
open Go.RowKit
theorem ex_0_97 (w : World) : Calls Try.prog 34 #[.int .i64 0, .int .u8 97] w fun e w' => (e = .returned (.slice (some ⟨w.heap.size, 0, none⟩) 17 17) ∧ Doc w' w.heap.size 0 17 17 (exDoc.set 0 97)) ∧ Below w.heap.size w w' := by
  go_enter Try.func34, Try.ntmps34
  go_wp2
  go_returns
  refine ⟨⟨rfl, ?_⟩, (Below.refl _ _).alloc (Nat.le_refl _) _⟩
  exact doc_row (L := exDoc.set 0 97) (heap_alloc_new _ _) rfl (by decide)
theorem ex_8_2 (w : World) : Calls Try.prog 34 #[.int .i64 8, .int .u8 2] w fun e w' => (e = .returned (.slice (some ⟨w.heap.size, 0, none⟩) 17 17) ∧ Doc w' w.heap.size 0 17 17 (exDoc.set 8 2)) ∧ Below w.heap.size w w' := by
  go_enter Try.func34, Try.ntmps34
  go_wp2
  go_returns
  refine ⟨⟨rfl, ?_⟩, (Below.refl _ _).alloc (Nat.le_refl _) _⟩
  exact doc_row (L := exDoc.set 8 2) (heap_alloc_new _ _) rfl (by decide)
theorem ex_4_3 (w : World) : Calls Try.prog 34 #[.int .i64 4, .int .u8 3] w fun e w' => (e = .returned (.slice (some ⟨w.heap.size, 0, none⟩) 17 17) ∧ Doc w' w.heap.size 0 17 17 (exDoc.set 4 3)) ∧ Below w.heap.size w w' := by
  go_enter Try.func34, Try.ntmps34
  go_wp2
  go_returns
  refine ⟨⟨rfl, ?_⟩, (Below.refl _ _).alloc (Nat.le_refl _) _⟩
  exact doc_row (L := exDoc.set 4 3) (heap_alloc_new _ _) rfl (by decide)
theorem ex_6_5 (w : World) : Calls Try.prog 34 #[.int .i64 6, .int .u8 5] w fun e w' => (e = .returned (.slice (some ⟨w.heap.size, 0, none⟩) 17 17) ∧ Doc w' w.heap.size 0 17 17 (exDoc.set 6 5)) ∧ Below w.heap.size w w' := by
  go_enter Try.func34, Try.ntmps34
  go_wp2
  go_returns
  refine ⟨⟨rfl, ?_⟩, (Below.refl _ _).alloc (Nat.le_refl _) _⟩
  exact doc_row (L := exDoc.set 6 5) (heap_alloc_new _ _) rfl (by decide)
theorem ex_7_0 (w : World) : Calls Try.prog 34 #[.int .i64 7, .int .u8 0] w fun e w' => (e = .returned (.slice (some ⟨w.heap.size, 0, none⟩) 17 17) ∧ Doc w' w.heap.size 0 17 17 (exDoc.set 7 0)) ∧ Below w.heap.size w w' := by
  go_enter Try.func34, Try.ntmps34
  go_wp2
  go_returns
  refine ⟨⟨rfl, ?_⟩, (Below.refl _ _).alloc (Nat.le_refl _) _⟩
  exact doc_row (L := exDoc.set 7 0) (heap_alloc_new _ _) rfl (by decide)
theorem ex_6_6 (w : World) : Calls Try.prog 34 #[.int .i64 6, .int .u8 6] w fun e w' => (e = .returned (.slice (some ⟨w.heap.size, 0, none⟩) 17 17) ∧ Doc w' w.heap.size 0 17 17 (exDoc.set 6 6)) ∧ Below w.heap.size w w' := by
  go_enter Try.func34, Try.ntmps34
  go_wp2
  go_returns
  refine ⟨⟨rfl, ?_⟩, (Below.refl _ _).alloc (Nat.le_refl _) _⟩
  exact doc_row (L := exDoc.set 6 6) (heap_alloc_new _ _) rfl (by decide)
theorem ex_12_12 (w : World) : Calls Try.prog 34 #[.int .i64 12, .int .u8 12] w fun e w' => (e = .returned (.slice (some ⟨w.heap.size, 0, none⟩) 17 17) ∧ Doc w' w.heap.size 0 17 17 (exDoc.set 12 12)) ∧ Below w.heap.size w w' := by
  go_enter Try.func34, Try.ntmps34
  go_wp2
  go_returns
  refine ⟨⟨rfl, ?_⟩, (Below.refl _ _).alloc (Nat.le_refl _) _⟩
  exact doc_row (L := exDoc.set 12 12) (heap_alloc_new _ _) rfl (by decide)
theorem num_any (n : Int) (w : World) : Calls Try.prog 35 #[.int .i64 n] w fun e w' => e = .returned (.agg #[.int .i64 3, .int .i64 n, .int .u64 0, .string ⟨#[]⟩, .slice none 0 0, .slice none 0 0]) ∧ Below w.heap.size w w' := by
  go_enter Try.func35, Try.ntmps35
  go_wp2
  refine bodyPost_ret (v := .agg #[.int .i64 3, .int .i64 n, .int .u64 0, .string ⟨#[]⟩, .slice none 0 0, .slice none 0 0]) (by simp [results, Try.results35, go_sem, *]) rfl ?_
  exact ⟨rfl, by exact zw⟩
theorem own_lit {w : World} {g n sz : Nat} {e : TypeId} {cur : Array Value} (hg : w.heap[g]? = some (.cells cur e (0, 0))) (hs : cur.size = n * sz) (hn : n ≤ maxLen) : w.ownsRow 0 e sz (.slice (some ⟨g, 0, none⟩) n n) n cur.toList :=
  ⟨by simpa using hs, .inr ⟨g, n, cur, rfl, Nat.zero_le _, hg, Nat.le_refl _, hn, hs, List.take_of_length_le (by simp; omega)⟩⟩
theorem leaf_rep (w : World) (kd n u : Int) (s : List UInt8) : NRep w (.mk kd n u s [] []) [.int .i64 kd, .int .i64 n, .int .u64 u, strV s, .slice none 0 0, .slice none 0 0] [] := by
  rw [NRep]
  exact ⟨.slice none 0 0, .slice none 0 0, [], [], rfl, ⟨rfl, .inl ⟨rfl, rfl⟩⟩, ⟨rfl, .inl ⟨rfl, rfl⟩⟩, by rw [NReps]; exact ⟨rfl, rfl⟩, by simp [blkL, Value.ownBlock]⟩
theorem pair_reps {w : World} {t1 t2 : DT} {c1 c2 : List Value} (h1 : NRep w t1 c1 []) (h2 : NRep w t2 c2 []) : NReps w [t1, t2] (c1 ++ c2) [] := by
  rw [NReps]
  refine ⟨c1, [], c2, [], h1, ?_, rfl, rfl⟩
  rw [NReps]
  refine ⟨c2, [], [], [], h2, ?_, by simp, rfl⟩
  rw [NReps]
  exact ⟨rfl, rfl⟩
/-- The vector of 5 and 6. -/
def vecT : DT := .mk 10 0 0 [] [] [.mk 3 5 0 [] [] [], .mk 3 6 0 [] [] []]
def numC (n : Int) : List Value := [.int .i64 3, .int .i64 n, .int .u64 0, .string ⟨#[]⟩, .slice none 0 0, .slice none 0 0]
theorem vec_rep {w : World} {g : Nat} (hg : w.heap[g]? = some (.cells #[.int .i64 3, .int .i64 5, .int .u64 0, .string ⟨#[]⟩, .slice none 0 0, .slice none 0 0, .int .i64 3, .int .i64 6, .int .u64 0, .string ⟨#[]⟩, .slice none 0 0, .slice none 0 0] 44 (0, 0))) :
    NRep w vecT [.int .i64 10, .int .i64 0, .int .u64 0, .string ⟨#[]⟩, .slice none 0 0, .slice (some ⟨g, 0, none⟩) 2 2] [g] := by
  unfold vecT
  rw [NRep]
  exact ⟨.slice none 0 0, .slice (some ⟨g, 0, none⟩) 2 2, _, [], rfl, ⟨rfl, .inl ⟨rfl, rfl⟩⟩, own_lit hg rfl (by decide), pair_reps (leaf_rep w 3 5 0 []) (leaf_rep w 3 6 0 []), by simp [blkL, Value.ownBlock]⟩
theorem ex_rep {w : World} {k g : Nat} (hk : w.heap[k]? = some (.cells #[.string ⟨#[97]⟩, .string ⟨#[98]⟩] 9 (0, 0)))
    (hg : w.heap[g]? = some (.cells #[.int .i64 1, .int .i64 0, .int .u64 0, .string ⟨#[]⟩, .slice none 0 0, .slice none 0 0, .int .i64 3, .int .i64 1, .int .u64 0, .string ⟨#[]⟩, .slice none 0 0, .slice none 0 0] 44 (0, 0))) :
    NRep w exTree [.int .i64 17, .int .i64 0, .int .u64 0, .string ⟨#[]⟩, .slice (some ⟨k, 0, none⟩) 2 2, .slice (some ⟨g, 0, none⟩) 2 2] [k, g] := by
  unfold exTree
  rw [NRep]
  exact ⟨.slice (some ⟨k, 0, none⟩) 2 2, .slice (some ⟨g, 0, none⟩) 2 2, _, [], rfl, own_lit hk rfl (by decide), own_lit hg rfl (by decide), pair_reps (leaf_rep w 1 0 0 []) (leaf_rep w 3 1 0 []), by simp [blkL, Value.ownBlock]⟩
theorem ev13 : docD [0, 0, 40, 1] 9 = (.mk 10 0 0 [] [] [], 8, 0, 0) := by kernel_rfl
theorem ev14 : treeD [2, 5, 6, 4, 4, 4] 2 3 5 1 10 1 = (vecT, 0, 0, 0) := by kernel_rfl
theorem ev15 : treeD [2, 5, 6, 4, 4, 4] 1 3 5 1 10 1 = (zeroT, 0, 1, 61) := by kernel_rfl
end
section
open Go.RowKit
set_option maxHeartbeats 4000000 in
theorem reads_true {w : World} {b o n cap : Nat} {D : List UInt8} (hD : Doc w b o n cap D) (fuel left : Int) (T : DT) (hf : fuel ≤ 1073741824) (hev : docD D fuel = (T, left, 0, 0)) (x0 x1 x2 x3 x4 x5 : Value) (bs : List Nat) (hT : NRep w T [x0, x1, x2, x3, x4, x5] bs) :
    Calls Try.prog 36 #[.slice (some ⟨b, o, none⟩) n cap, .int .i64 fuel, .agg #[x0, x1, x2, x3, x4, x5], .int .i64 left] w fun e w' => e = .returned (.bool true) ∧ Below w.heap.size w w' := by
  have HD := Lib.hid (fun (W : World) (hW : Below w.heap.size w W) => hev ▸ ddoc_doc (hD.below hW) fuel hf)
  have HE := Lib.hid (eqnode_true T)
  have HT := Lib.hid hT
  obtain ⟨kd', n', u', s', kv', lv', hcs⟩ := hT.form
  simp only [List.cons.injEq, and_true] at hcs
  obtain ⟨rfl, rfl, rfl, rfl, rfl, rfl⟩ := hcs
  clear hD hev hT
  go_enter Try.func36, Try.ntmps36
  go_upto_region 1 with fail
  refine wp_named (fun wn => Below w.heap.size w wn ∧ wn.heap[w.heap.size]? = some (.cells #[.int .i64 kd', .int .i64 n', .int .u64 u', .string s', x4, x5] 44 (0, 0))) ⟨by exact zw, heap_alloc_new _ _⟩ ?_
  rintro wn ⟨hbn, hX⟩
  go_wp2_with fail
  refine (HD.out _ hbn).mono ?_
  rintro e w1 ⟨kd, nn, u, s, A1, m1, c1, A2, m2, c2, bs', rfl, hr, -, -, hb1⟩
  have hX1 := (hb1.block _ (Array.getElem?_eq_some_iff.1 hX).1).trans hX
  have hbw := hbn.trans (hb1.mono hbn.size)
  have hz1 := hbw.size
  have HR := Lib.hid hr
  clear hr hX
  dsimp only
  go_upto_region 2 with fail
  refine wp_named (fun wz => Below w.heap.size w wz ∧ Below w1.heap.size w1 wz ∧ wz.heap[w.heap.size]? = some (.cells #[.int .i64 kd', .int .i64 n', .int .u64 u', .string s', x4, x5] 44 (0, 0)) ∧ wz.heap[w1.heap.size]? = some (.cells #[.int .i64 kd, .int .i64 nn, .int .u64 u, .string s, .slice A1 m1 c1, .slice A2 m2 c2] 44 (0, 0))) ⟨by exact zw, by exact zw, ?_, heap_alloc_new _ _⟩ ?_
  · exact (((Below.refl w1.heap.size w1).alloc (Nat.le_refl _) _).block _ (Array.getElem?_eq_some_iff.1 hX1).1).trans hX1
  rintro wz ⟨hbz, hbz1, hXz, hYz⟩
  have z0 : wz.cell? ⟨w.heap.size, 0, none⟩ = some (.int .i64 kd') := cell_of_row _ _ _ _ _ _ hXz
  have z1 : wz.cell? ⟨w.heap.size, 1, none⟩ = some (.int .i64 n') := cell_of_row _ _ _ _ _ _ hXz
  have z2 : wz.cell? ⟨w.heap.size, 2, none⟩ = some (.int .u64 u') := cell_of_row _ _ _ _ _ _ hXz
  have z3 : wz.cell? ⟨w.heap.size, 3, none⟩ = some (.string s') := cell_of_row _ _ _ _ _ _ hXz
  have z4 : wz.cell? ⟨w.heap.size, 4, none⟩ = some x4 := cell_of_row _ _ _ _ _ _ hXz
  have z5 : wz.cell? ⟨w.heap.size, 5, none⟩ = some x5 := cell_of_row _ _ _ _ _ _ hXz
  have y0 : wz.cell? ⟨w1.heap.size, 0, none⟩ = some (.int .i64 kd) := cell_of_row _ _ _ _ _ _ hYz
  have y1 : wz.cell? ⟨w1.heap.size, 1, none⟩ = some (.int .i64 nn) := cell_of_row _ _ _ _ _ _ hYz
  have y2 : wz.cell? ⟨w1.heap.size, 2, none⟩ = some (.int .u64 u) := cell_of_row _ _ _ _ _ _ hYz
  have y3 : wz.cell? ⟨w1.heap.size, 3, none⟩ = some (.string s) := cell_of_row _ _ _ _ _ _ hYz
  have y4 : wz.cell? ⟨w1.heap.size, 4, none⟩ = some (.slice A1 m1 c1) := cell_of_row _ _ _ _ _ _ hYz
  have y5 : wz.cell? ⟨w1.heap.size, 5, none⟩ = some (.slice A2 m2 c2) := cell_of_row _ _ _ _ _ _ hYz
  have HQ := Lib.hid (HE.out wz _ _ _ _ _ _ _ _ _ _ _ _ _ _ (HR.out.below hbz1) (HT.out.below hbz))
  clear hXz hYz hX1 hbn hb1 HR HT HE HD hbz1 hbw
  generalize w1.heap.size = Y at *
  go_wp2_with fail
  refine HQ.out.mono ?_
  rintro e w2 ⟨rfl, hb2⟩
  have hb3 := hbz.trans (hb2.mono hbz.size)
  go_wp2_with fail
  go_returns
  exact ⟨rfl, hb3⟩
set_option maxHeartbeats 4000000 in
theorem fails_true {w : World} {b o n cap : Nat} {D : List UInt8} (hD : Doc w b o n cap D) (fuel a er : Int) (hf : fuel ≤ 1073741824) (hev : docD D fuel = (zeroT, 0, a, er)) :
    Calls Try.prog 37 #[.slice (some ⟨b, o, none⟩) n cap, .int .i64 fuel, .int .i64 a, .int .i64 er] w fun e w' => e = .returned (.bool true) ∧ Below w.heap.size w w' := by
  have HD := Lib.hid (fun (W : World) (hW : Below w.heap.size w W) => hev ▸ ddoc_doc (hD.below hW) fuel hf)
  have HE := Lib.hid (eqnode_true zeroT)
  clear hD hev
  go_enter Try.func37, Try.ntmps37
  go_upto_region 1 with fail
  refine wp_named (fun wn => Below w.heap.size w wn) zw ?_
  rintro wn hbn
  go_wp2_with fail
  refine (HD.out _ hbn).mono ?_
  rintro e w1 ⟨kd, nn, u, s, A1, m1, c1, A2, m2, c2, bs', rfl, hr, -, -, hb1⟩
  have hbw := hbn.trans (hb1.mono hbn.size)
  have hz1 := hbw.size
  have HR := Lib.hid hr
  clear hr
  dsimp only
  go_upto_region 2 with fail
  refine wp_named (fun wz => Below w.heap.size w wz ∧ Below w1.heap.size w1 wz ∧ wz.heap[w1.heap.size]? = some (.cells #[.int .i64 kd, .int .i64 nn, .int .u64 u, .string s, .slice A1 m1 c1, .slice A2 m2 c2] 44 (0, 0))) ⟨by exact zw, by exact zw, heap_alloc_new _ _⟩ ?_
  rintro wz ⟨hbz, hbz1, hYz⟩
  have y0 : wz.cell? ⟨w1.heap.size, 0, none⟩ = some (.int .i64 kd) := cell_of_row _ _ _ _ _ _ hYz
  have y1 : wz.cell? ⟨w1.heap.size, 1, none⟩ = some (.int .i64 nn) := cell_of_row _ _ _ _ _ _ hYz
  have y2 : wz.cell? ⟨w1.heap.size, 2, none⟩ = some (.int .u64 u) := cell_of_row _ _ _ _ _ _ hYz
  have y3 : wz.cell? ⟨w1.heap.size, 3, none⟩ = some (.string s) := cell_of_row _ _ _ _ _ _ hYz
  have y4 : wz.cell? ⟨w1.heap.size, 4, none⟩ = some (.slice A1 m1 c1) := cell_of_row _ _ _ _ _ _ hYz
  have y5 : wz.cell? ⟨w1.heap.size, 5, none⟩ = some (.slice A2 m2 c2) := cell_of_row _ _ _ _ _ _ hYz
  have HQ := Lib.hid (HE.out wz _ _ _ _ _ _ _ _ _ _ _ _ _ _ (HR.out.below hbz1) (zero_rep wz))
  clear hYz hbn hb1 HR HE HD hbz1 hbw
  generalize w1.heap.size = Y at *
  go_wp2_with fail
  refine HQ.out.mono ?_
  rintro e w2 ⟨rfl, hb2⟩
  have hb3 := hbz.trans (hb2.mono hbz.size)
  go_wp2_with fail
  go_returns
  exact ⟨rfl, hb3⟩
end
end Go.Proofs.Ytmpflnlajakibaa
