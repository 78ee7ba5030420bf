/- The walk of the reference's Node: null and vectors. The reference's Node, whole: by induction on the fuel. -/
import Derived.Test.YtmpflnlajakibaaGreatCs
import Derived.Test.YtmpflnlajakibaaGreatCk
import Derived.Test.YtmpflnlajakibaaGreatCp
import Derived.Test.YtmpflnlajakibaaGreatCq
import Derived.Test.YtmpflnlajakibaaGreatCr
import Derived.Test.YtmpflnlajakibaaGreatCt
import Derived.Test.YtmpflnlajakibaaGreatCu
import Derived.Test.YtmpflnlajakibaaGreatCv
namespace Go.Proofs.YtmpflnlajakibaaGreat
set_option linter.unusedVariables false
set_option linter.unusedSimpArgs false
set_option linter.unusedSectionVars false
section
open Go.RowKit
theorem npost_of2 {ty : TypeId} {w wz w1 W : World} {lk b o n cap Y : Nat} {D : List UInt8} {dp t : Int} {T : DR (DT × Int)} {kd nn u : Int} {s : ByteArray} {A1 A2 : Option Addr} {m1 c1 m2 c2 : Nat} (hK : ∀ kd' nn' u' s' ks' l' f', T = .ok (.mk kd' nn' u' s' ks' l', f') → kd' = kindD t)
    (h : VPost ty (kindD t) wz lk b o n cap D dp T (.returned (.agg #[.int .i64 kd, .int .i64 nn, .int .u64 u, .string s, .slice A1 m1 c1, .slice A2 m2 c2])) w1) (hw : Touch [lk] w wz) (ht : Touch [Y] w1 W) (hY : Y < wz.heap.size) (hYw : w.heap.size ≤ Y) (hl : lk < w.heap.size) (hb : b < w.heap.size) :
    NPost ty w lk b o n cap D dp T (.returned (.agg #[.int .i64 kd, .int .i64 nn, .int .u64 u, .string s, .slice A1 m1 c1, .slice A2 m2 c2])) W := by
  obtain ⟨_, _, _, _, _, _, _, _, _, _, -, hz, -⟩ := vpost_shape h
  have hs := hz.size
  have hs2 := hw.size
  have hT : Touch [lk] w W := by
    refine Tch.touch (((hw.trans hz).tch (Nat.le_refl _)).trans ⟨ht.os, ht.tape, ht.output, ht.size, fun i hi _ => ht.block i (by omega) (by simp; omega)⟩)
  rcases T with ⟨a, e⟩ | ⟨⟨kd', nn', u', s', ks, l⟩, f⟩
  · obtain ⟨_, _, _, _, _, _, _, _, _, _, f, -, he0, hd1, -⟩ := h
    exact ⟨_, _, _, _, _, _, _, _, _, _, f, rfl, he0, hd1.still ht (by simp; omega) (by simp; omega), hT⟩
  · obtain ⟨kv, lv, xs, bl, a', he, o1, o2, o3, nd, ge, hd1, -⟩ := h
    obtain rfl := hK _ _ _ _ _ _ _ rfl
    injection he with he
    injection he with he
    simp only [Array.mk.injEq, List.cons.injEq, Value.int.injEq, Value.string.injEq, true_and, and_true] at he
    obtain ⟨rfl, rfl, rfl, rfl, rfl, rfl⟩ := he
    have hk : Kids w1 wz.heap.size ks l (.slice A1 m1 c1) (.slice A2 m2 c2) xs bl := ⟨o1, o2, o3, nd, ge⟩
    have hk2 := hk.same fun i hi => ht.block i (hk.lt i hi) (by have := ge i hi; simp; omega)
    exact ⟨_, _, xs, bl, a', rfl, hk2.k, hk2.r, hk2.n, nd, fun i hi => by have := ge i hi; omega, hd1.still ht (by simp; omega) (by simp; omega), hT⟩
section
variable {w : World} {lk b o n cap : Nat} {D : List UInt8} {dp fu a0 : Int}
set_option maxHeartbeats 8000000 in
set_option maxRecDepth 100000 in
theorem rnode_0 (h : DSt 49 w lk b o n cap D dp fu a0 0) (p q k lim d : Int) (hfu0 : 1 ≤ fu ∧ fu ≤ 1073741824) (hfu1 : ¬ dp < d) (hm : mayE n p q 0 k = 0) :
    Calls Tryz.prog 17 #[.pointer (some ⟨lk, 0, none⟩), .agg #[.int .i64 p, .int .i64 q, .int .i64 0, .int .i64 k], .int .i64 lim, .int .i64 d] w (NPost 49 w lk b o n cap D dp (.ok (.mk (kindD 0) 0 0 [] [] [], fu - 1))) := by
  obtain ⟨m1, m2, m3, m4, m5, m6, m7, m8, m9⟩ := mayE_zero hm
  have H_in : Hid (inlineB 0 = true) := Lib.hid rfl
  have HKd := fun W => Lib.hid (rkind_any p q 0 k m1 W)
  generalize kindD 0 = kd at *
  have hlow := h.low
  have hD := h.doc
  obtain ⟨hn1, hn2⟩ := hD.bd
  have hbw := hlow.b
  have hlw := hlow.l
  have Hfu0 := Lib.hid hfu0
  have Hfu1 := Lib.hid hfu1
  clear hfu0 hfu1
  go_enter Tryz.func17, Tryz.ntmps17
  go_upto_region 1 with fail
  refine wp_named (fun wn => Touch [lk] w wn ∧ DSt 49 wn lk b o n cap D dp fu a0 0 ∧ wn.heap.size = w.heap.size + 2 ∧ wn.heap[w.heap.size]? = some (.cells #[.int .i64 p, .int .i64 q, .int .i64 0, .int .i64 k] 24 (0, 0)) ∧ wn.heap[w.heap.size + 1]? = some (.cells #[.int .i64 0, .int .i64 0, .int .u64 0, .string ⟨#[]⟩, .slice none 0 0, .slice none 0 0] 31 (0, 0))) ⟨Touch.quiet zw, h.keep hlow zw (Nat.le_refl _), by simp, heap_made_1 _ _ _, heap_made_2 _ _ _⟩ ?_
  rintro wn ⟨htn, hKn, hsz, hXb, hYb⟩
  have hX : w.heap.size < wn.heap.size := by omega
  have hY : w.heap.size + 1 < wn.heap.size := by omega
  have hnX : w.heap.size ∉ [lk] := by simp; omega
  have hnY : w.heap.size + 1 ∉ [lk] := by simp; omega
  have gln : lk < wn.heap.size := hKn.lkt
  have z0 : wn.cell? ⟨w.heap.size, 0, none⟩ = some (.int .i64 p) := cell_of_row _ _ _ _ _ _ hXb
  have q1 := hKn.c1
  have q2 := hKn.c2
  have q4 := hKn.c4
  have hfu0 := Hfu0.out
  have hfu1 := Hfu1.out
  clear Hfu0 Hfu1
  have hfl : ¬ fu < 1 := by omega
  have hwf : IntKind.i64.wrap (fu - 1) = fu - 1 := IntWalk.i64_in _ (by omega)
  have f2 := hKn.fz 2
  have hset := Touch.setCell wn lk 2 (.int .i64 (fu - 1))
  have hK2 : DSt 49 (wn.setCell ⟨lk, 2, none⟩ (.int .i64 (fu - 1))) lk b o n cap D dp (fu - 1) a0 0 := hKn.told hset (heap_setCell_same _ _ _ _ _ _ hKn.row)
  go_upto_region 4 with fail
  refine wp_named (fun wx => DSt 49 wx lk b o n cap D dp (fu - 1) a0 0 ∧ Touch [lk] w wx ∧ wx.heap[w.heap.size]? = some (.cells #[.int .i64 p, .int .i64 q, .int .i64 0, .int .i64 k] 24 (0, 0)) ∧ wx.heap[w.heap.size + 1]? = some (.cells #[.int .i64 0, .int .i64 0, .int .u64 0, .string ⟨#[]⟩, .slice none 0 0, .slice none 0 0] 31 (0, 0))) ⟨hK2, htn.trans hset, touch_row hset hXb hnX, touch_row hset hYb hnY⟩ ?_
  clear hKn htn hXb hYb hX hY gln z0 q1 q2 q4 f2 hset hK2
  rintro wx ⟨hKx, htx, hXx, hYx⟩
  have x0 : wx.cell? ⟨w.heap.size, 0, none⟩ = some (.int .i64 p) := cell_of_row _ _ _ _ _ _ hXx
  have r1 := hKx.c1
  have r4 := hKx.c4
  have z1 : wx.cell? ⟨w.heap.size, 1, none⟩ = some (.int .i64 q) := cell_of_row _ _ _ _ _ _ hXx
  have z2 : wx.cell? ⟨w.heap.size, 2, none⟩ = some (.int .i64 0) := cell_of_row _ _ _ _ _ _ hXx
  have z3 : wx.cell? ⟨w.heap.size, 3, none⟩ = some (.int .i64 k) := cell_of_row _ _ _ _ _ _ hXx
  have gXx := (Array.getElem?_eq_some_iff.1 hXx).1
  have gYx := (Array.getElem?_eq_some_iff.1 hYx).1
  go_upto_region 9 with (go_at_call 40; refine ((HKd _).out).mono ?_; rintro e w1 ⟨rfl, hb1⟩; obtain ⟨hc1, hf1, hl1⟩ := bcell hb1; (try simp only [zdz] at hc1 hf1 hl1); have hz1 := hb1.size; (try simp only [zsz] at hz1); (try have g0 : w.heap.size < w1.heap.size := by omega); (try have g1 : w.heap.size + 1 < w1.heap.size := by omega); (try have gl : lk < w1.heap.size := by omega))
  refine wp_named (fun wy => DSt 49 wy lk b o n cap D dp (fu - 1) a0 0 ∧ Touch [lk] w wy ∧ w.heap.size + 1 < w1.heap.size ∧ wy.heap[w.heap.size]? = some (.cells #[.int .i64 p, .int .i64 q, .int .i64 0, .int .i64 k] 24 (0, 0)) ∧ wy.heap[w.heap.size + 1]? = some (.cells #[.int .i64 0, .int .i64 0, .int .u64 0, .string ⟨#[]⟩, .slice none 0 0, .slice none 0 0] 31 (0, 0)) ∧ wy.heap[w1.heap.size]? = some (.cells #[.int .i64 kd, .int .i64 0, .int .u64 0, .string ⟨#[]⟩, .slice none 0 0, .slice none 0 0] 31 (0, 0))) ⟨hKx.keep hKx.low zw (Nat.le_refl _), htx.trans (Touch.quiet zw), by omega, (((Below.refl w1.heap.size w1).alloc (Nat.le_refl _) _).block _ (by omega)).trans ((hb1.block _ gXx).trans hXx), (((Below.refl w1.heap.size w1).alloc (Nat.le_refl _) _).block _ (by omega)).trans ((hb1.block _ gYx).trans hYx), heap_alloc_new _ _⟩ ?_
  clear hb1 hc1 hf1 hl1 hz1 gl hKx htx hXx hYx x0 r1 r4 z1 z2 z3 gXx gYx
  generalize w1.heap.size = Z
  rintro wy ⟨hKy, hty, hZ0, hXy, hYy, hZy⟩
  have hnZ : Z ∉ [lk] := by simp; omega
  have x0 : wy.cell? ⟨w.heap.size, 0, none⟩ = some (.int .i64 p) := cell_of_row _ _ _ _ _ _ hXy
  have x1 : wy.cell? ⟨w.heap.size, 1, none⟩ = some (.int .i64 q) := cell_of_row _ _ _ _ _ _ hXy
  have x2 : wy.cell? ⟨w.heap.size, 2, none⟩ = some (.int .i64 0) := cell_of_row _ _ _ _ _ _ hXy
  have x3 : wy.cell? ⟨w.heap.size, 3, none⟩ = some (.int .i64 k) := cell_of_row _ _ _ _ _ _ hXy
  have r4 := hKy.c4
  have hin := H_in.out
  have HI := fun W => Lib.hid (rinline_any 0 W)
  rw [hin] at HI
  clear hin
  go_upto_region 15 with (go_at_call 41; refine ((HI _).out).mono ?_; rintro e w1 ⟨rfl, rfl⟩)
  refine wp_named (fun wv => DSt 49 wv lk b o n cap D dp (fu - 1) a0 0 ∧ Touch [lk] w wv ∧ wv.heap[w.heap.size]? = some (.cells #[.int .i64 p, .int .i64 q, .int .i64 0, .int .i64 k] 24 (0, 0)) ∧ wv.heap[w.heap.size + 1]? = some (.cells #[.int .i64 0, .int .i64 0, .int .u64 0, .string ⟨#[]⟩, .slice none 0 0, .slice none 0 0] 31 (0, 0)) ∧ wv.heap[Z]? = some (.cells #[.int .i64 kd, .int .i64 0, .int .u64 0, .string ⟨#[]⟩, .slice none 0 0, .slice none 0 0] 31 (0, 0))) ⟨hKy, hty, hXy, hYy, hZy⟩ ?_
  clear hKy hty hXy hYy hZy x0 x1 x2 x3 r4
  rintro wv ⟨hKv, htv, hXv, hYv, hZv⟩
  have x2 : wv.cell? ⟨w.heap.size, 2, none⟩ = some (.int .i64 0) := cell_of_row _ _ _ _ _ _ hXv
  go_upto_region 31 with fail
  clear x2 hXv
  have n0 : wv.cell? ⟨w.heap.size + 1, 0, none⟩ = some (.int .i64 0) := cell_of_row _ _ _ _ _ _ hYv
  have n1 : wv.cell? ⟨w.heap.size + 1, 1, none⟩ = some (.int .i64 0) := cell_of_row _ _ _ _ _ _ hYv
  have n2 : wv.cell? ⟨w.heap.size + 1, 2, none⟩ = some (.int .u64 0) := cell_of_row _ _ _ _ _ _ hYv
  have n3 : wv.cell? ⟨w.heap.size + 1, 3, none⟩ = some (.string ⟨#[]⟩) := cell_of_row _ _ _ _ _ _ hYv
  have n4 : wv.cell? ⟨w.heap.size + 1, 4, none⟩ = some (.slice none 0 0) := cell_of_row _ _ _ _ _ _ hYv
  have n5 : wv.cell? ⟨w.heap.size + 1, 5, none⟩ = some (.slice none 0 0) := cell_of_row _ _ _ _ _ _ hYv
  have hfz := fun (j : Nat) => frozen_of_row _ _ j _ _ hYv
  have e0 : wv.cell? ⟨Z, 0, none⟩ = some (.int .i64 kd) := cell_of_row _ _ _ _ _ _ hZv
  have e1 : wv.cell? ⟨Z, 1, none⟩ = some (.int .i64 0) := cell_of_row _ _ _ _ _ _ hZv
  have e2 : wv.cell? ⟨Z, 2, none⟩ = some (.int .u64 0) := cell_of_row _ _ _ _ _ _ hZv
  have e3 : wv.cell? ⟨Z, 3, none⟩ = some (.string ⟨#[]⟩) := cell_of_row _ _ _ _ _ _ hZv
  have e4 : wv.cell? ⟨Z, 4, none⟩ = some (.slice none 0 0) := cell_of_row _ _ _ _ _ _ hZv
  have e5 : wv.cell? ⟨Z, 5, none⟩ = some (.slice none 0 0) := cell_of_row _ _ _ _ _ _ hZv
  have hfze := fun (j : Nat) => frozen_of_row _ _ j _ _ hZv
  have hYZ : Z ≠ w.heap.size + 1 := by omega
  clear hYv hZv
  go_wp2_with fail
  refine bodyPost_ret (v := .agg #[.int .i64 kd, .int .i64 0, .int .u64 0, .string ⟨#[]⟩, .slice none 0 0, .slice none 0 0]) (by simp [results, Tryz.results17, go_sem, *]) rfl ?_
  exact ⟨.slice none 0 0, .slice none 0 0, [], [], a0, rfl, ⟨rfl, .inl ⟨rfl, rfl⟩⟩, ⟨rfl, .inl ⟨rfl, rfl⟩⟩, by rw [NReps]; exact ⟨rfl, rfl⟩, by simp [blkL, Value.ownBlock], by simp [blkL, Value.ownBlock], hKv.still (touch6 _ _ _ _ _ _) (by simp; omega) (by simp; omega), Tch.touch (tch_six (htv.tch (Nat.le_refl _)) (by omega))⟩
set_option maxHeartbeats 8000000 in
set_option maxRecDepth 100000 in
theorem rnode_v (h : DSt 49 w lk b o n cap D dp fu a0 0) (p q t k lim d : Int) (A : Int) (hfu0 : 1 ≤ fu ∧ fu ≤ 1073741824) (hfu1 : ¬ dp < d) (hm : mayE n p q t k = 0) (hin : inlineB t = false) (htb : tgtB D p q t k lim = true) (hA : A = p - loadV D p q) (hne : t ≠ 0 ∧ t ≠ 1 ∧ t ≠ 26 ∧ t ≠ 6 ∧ t ≠ 2 ∧ t ≠ 7 ∧ t ≠ 4 ∧ t ≠ 5 ∧ t ≠ 25) (r : DR (DT × Int))
    (hK : ∀ kd' nn' u' s' ks' l' f', r = .ok (.mk kd' nn' u' s' ks' l', f') → kd' = kindD t)
    (HV : ∀ W a', DSt 49 W lk b o n cap D dp (fu - 1) a' 0 → Calls Tryz.prog 48 #[.pointer (some ⟨lk, 0, none⟩), .agg #[.int .i64 p, .int .i64 q, .int .i64 t, .int .i64 k], .int .i64 A, .int .i64 d] W (VPost 49 (kindD t) W lk b o n cap D dp r)) :
    Calls Tryz.prog 17 #[.pointer (some ⟨lk, 0, none⟩), .agg #[.int .i64 p, .int .i64 q, .int .i64 t, .int .i64 k], .int .i64 lim, .int .i64 d] w (NPost 49 w lk b o n cap D dp r) := by
  obtain ⟨m1, m2, m3, m4, m5, m6, m7, m8, m9⟩ := mayE_zero hm
  have H_in := Lib.hid hin
  have H_tb := Lib.hid htb
  have H_A := Lib.hid hA
  have H_V := Lib.hid HV
  have H_ne := Lib.hid hne
  have H_K := Lib.hid hK
  have HKd := fun W => Lib.hid (rkind_any p q t k m1 W)
  clear hin htb hA HV hne hK
  generalize kindD t = kd at HKd
  have hlow := h.low
  have hD := h.doc
  obtain ⟨hn1, hn2⟩ := hD.bd
  have hbw := hlow.b
  have hlw := hlow.l
  have Hfu0 := Lib.hid hfu0
  have Hfu1 := Lib.hid hfu1
  clear hfu0 hfu1
  go_enter Tryz.func17, Tryz.ntmps17
  go_upto_region 1 with fail
  refine wp_named (fun wn => Touch [lk] w wn ∧ DSt 49 wn lk b o n cap D dp fu a0 0 ∧ wn.heap.size = w.heap.size + 2 ∧ wn.heap[w.heap.size]? = some (.cells #[.int .i64 p, .int .i64 q, .int .i64 t, .int .i64 k] 24 (0, 0)) ∧ wn.heap[w.heap.size + 1]? = some (.cells #[.int .i64 0, .int .i64 0, .int .u64 0, .string ⟨#[]⟩, .slice none 0 0, .slice none 0 0] 31 (0, 0))) ⟨Touch.quiet zw, h.keep hlow zw (Nat.le_refl _), by simp, heap_made_1 _ _ _, heap_made_2 _ _ _⟩ ?_
  rintro wn ⟨htn, hKn, hsz, hXb, hYb⟩
  have hX : w.heap.size < wn.heap.size := by omega
  have hY : w.heap.size + 1 < wn.heap.size := by omega
  have hnX : w.heap.size ∉ [lk] := by simp; omega
  have hnY : w.heap.size + 1 ∉ [lk] := by simp; omega
  have gln : lk < wn.heap.size := hKn.lkt
  have z0 : wn.cell? ⟨w.heap.size, 0, none⟩ = some (.int .i64 p) := cell_of_row _ _ _ _ _ _ hXb
  have q1 := hKn.c1
  have q2 := hKn.c2
  have q4 := hKn.c4
  have hfu0 := Hfu0.out
  have hfu1 := Hfu1.out
  clear Hfu0 Hfu1
  have hfl : ¬ fu < 1 := by omega
  have hwf : IntKind.i64.wrap (fu - 1) = fu - 1 := IntWalk.i64_in _ (by omega)
  have f2 := hKn.fz 2
  have hset := Touch.setCell wn lk 2 (.int .i64 (fu - 1))
  have hK2 : DSt 49 (wn.setCell ⟨lk, 2, none⟩ (.int .i64 (fu - 1))) lk b o n cap D dp (fu - 1) a0 0 := hKn.told hset (heap_setCell_same _ _ _ _ _ _ hKn.row)
  go_upto_region 4 with fail
  refine wp_named (fun wx => DSt 49 wx lk b o n cap D dp (fu - 1) a0 0 ∧ Touch [lk] w wx ∧ wx.heap[w.heap.size]? = some (.cells #[.int .i64 p, .int .i64 q, .int .i64 t, .int .i64 k] 24 (0, 0)) ∧ wx.heap[w.heap.size + 1]? = some (.cells #[.int .i64 0, .int .i64 0, .int .u64 0, .string ⟨#[]⟩, .slice none 0 0, .slice none 0 0] 31 (0, 0))) ⟨hK2, htn.trans hset, touch_row hset hXb hnX, touch_row hset hYb hnY⟩ ?_
  clear hKn htn hXb hYb hX hY gln z0 q1 q2 q4 f2 hset hK2
  rintro wx ⟨hKx, htx, hXx, hYx⟩
  have x0 : wx.cell? ⟨w.heap.size, 0, none⟩ = some (.int .i64 p) := cell_of_row _ _ _ _ _ _ hXx
  have r1 := hKx.c1
  have r4 := hKx.c4
  have z1 : wx.cell? ⟨w.heap.size, 1, none⟩ = some (.int .i64 q) := cell_of_row _ _ _ _ _ _ hXx
  have z2 : wx.cell? ⟨w.heap.size, 2, none⟩ = some (.int .i64 t) := cell_of_row _ _ _ _ _ _ hXx
  have z3 : wx.cell? ⟨w.heap.size, 3, none⟩ = some (.int .i64 k) := cell_of_row _ _ _ _ _ _ hXx
  have gXx := (Array.getElem?_eq_some_iff.1 hXx).1
  have gYx := (Array.getElem?_eq_some_iff.1 hYx).1
  go_upto_region 9 with (go_at_call 40; refine ((HKd _).out).mono ?_; rintro e w1 ⟨rfl, hb1⟩; obtain ⟨hc1, hf1, hl1⟩ := bcell hb1; (try simp only [zdz] at hc1 hf1 hl1); have hz1 := hb1.size; (try simp only [zsz] at hz1); (try have g0 : w.heap.size < w1.heap.size := by omega); (try have g1 : w.heap.size + 1 < w1.heap.size := by omega); (try have gl : lk < w1.heap.size := by omega))
  refine wp_named (fun wy => DSt 49 wy lk b o n cap D dp (fu - 1) a0 0 ∧ Touch [lk] w wy ∧ w.heap.size + 1 < w1.heap.size ∧ wy.heap[w.heap.size]? = some (.cells #[.int .i64 p, .int .i64 q, .int .i64 t, .int .i64 k] 24 (0, 0)) ∧ wy.heap[w.heap.size + 1]? = some (.cells #[.int .i64 0, .int .i64 0, .int .u64 0, .string ⟨#[]⟩, .slice none 0 0, .slice none 0 0] 31 (0, 0)) ∧ wy.heap[w1.heap.size]? = some (.cells #[.int .i64 kd, .int .i64 0, .int .u64 0, .string ⟨#[]⟩, .slice none 0 0, .slice none 0 0] 31 (0, 0))) ⟨hKx.keep hKx.low zw (Nat.le_refl _), htx.trans (Touch.quiet zw), by omega, (((Below.refl w1.heap.size w1).alloc (Nat.le_refl _) _).block _ (by omega)).trans ((hb1.block _ gXx).trans hXx), (((Below.refl w1.heap.size w1).alloc (Nat.le_refl _) _).block _ (by omega)).trans ((hb1.block _ gYx).trans hYx), heap_alloc_new _ _⟩ ?_
  clear hb1 hc1 hf1 hl1 hz1 gl hKx htx hXx hYx x0 r1 r4 z1 z2 z3 gXx gYx
  generalize w1.heap.size = Z
  rintro wy ⟨hKy, hty, hZ0, hXy, hYy, hZy⟩
  have hnZ : Z ∉ [lk] := by simp; omega
  have x0 : wy.cell? ⟨w.heap.size, 0, none⟩ = some (.int .i64 p) := cell_of_row _ _ _ _ _ _ hXy
  have x1 : wy.cell? ⟨w.heap.size, 1, none⟩ = some (.int .i64 q) := cell_of_row _ _ _ _ _ _ hXy
  have x2 : wy.cell? ⟨w.heap.size, 2, none⟩ = some (.int .i64 t) := cell_of_row _ _ _ _ _ _ hXy
  have x3 : wy.cell? ⟨w.heap.size, 3, none⟩ = some (.int .i64 k) := cell_of_row _ _ _ _ _ _ hXy
  have r4 := hKy.c4
  have hin := H_in.out
  have HI := fun W => Lib.hid (rinline_any t W)
  rw [hin] at HI
  clear hin
  go_wp2_with (go_at_call 41; refine ((HI _).out).mono ?_; rintro e w1 ⟨rfl, rfl⟩)
  refine (rdtarget hKy p q t k lim m4 m9 m2 (refB_of m1 H_in.out) m7 m8).mono ?_
  rintro e w1 ⟨rfl, hv1, ht1⟩
  have hX1 := touch_row ht1 hXy hnX
  have hY1 := touch_row ht1 hYy hnY
  have hZ1 := touch_row ht1 hZy hnZ
  have htw := hty.trans ht1
  clear x0 x1 x2 x3 r4 hKy hty hXy hYy hZy ht1
  have htb := H_tb.out
  rw [show tgtE D p q t k lim 0 = 0 by simp [tgtE, htb], show tgtA D p q t k lim 0 a0 = a0 by simp [tgtA, htb]] at hv1
  have hXv : tgtX D p q t k lim = A := by rw [H_A.out]; simp [tgtX, htb]
  have r4 := hv1.c4
  clear htb
  go_upto_region 15 with fail
  refine wp_named (fun wv => DSt 49 wv lk b o n cap D dp (fu - 1) a0 0 ∧ Touch [lk] w wv ∧ wv.heap[w.heap.size]? = some (.cells #[.int .i64 p, .int .i64 q, .int .i64 t, .int .i64 k] 24 (0, 0)) ∧ wv.heap[w.heap.size + 1]? = some (.cells #[.int .i64 0, .int .i64 0, .int .u64 0, .string ⟨#[]⟩, .slice none 0 0, .slice none 0 0] 31 (0, 0)) ∧ wv.heap[Z]? = some (.cells #[.int .i64 kd, .int .i64 0, .int .u64 0, .string ⟨#[]⟩, .slice none 0 0, .slice none 0 0] 31 (0, 0))) ⟨hv1, htw, hX1, hY1, hZ1⟩ ?_
  clear hv1 htw hX1 hY1 hZ1 r4 hXv
  rintro wv ⟨hKv, htv, hXv, hYv, hZv⟩
  have x0 : wv.cell? ⟨w.heap.size, 0, none⟩ = some (.int .i64 p) := cell_of_row _ _ _ _ _ _ hXv
  have x1 : wv.cell? ⟨w.heap.size, 1, none⟩ = some (.int .i64 q) := cell_of_row _ _ _ _ _ _ hXv
  have x2 : wv.cell? ⟨w.heap.size, 2, none⟩ = some (.int .i64 t) := cell_of_row _ _ _ _ _ _ hXv
  have x3 : wv.cell? ⟨w.heap.size, 3, none⟩ = some (.int .i64 k) := cell_of_row _ _ _ _ _ _ hXv
  have x4 := hKv.c0
  have gln : lk < wv.heap.size := hKv.lkt
  have gX := (Array.getElem?_eq_some_iff.1 hXv).1
  have gY := (Array.getElem?_eq_some_iff.1 hYv).1
  have gZ := (Array.getElem?_eq_some_iff.1 hZv).1
  have hDv := hKv.doc
  obtain ⟨h0, h1, h26, h6, h2, h7, h4, h5, h25⟩ := H_ne.out
  have g0 : (t == 0) = false := by simpa using h0
  have g1 : (t == 1) = false := by simpa using h1
  have g26 : (t == 26) = false := by simpa using h26
  have g6 : (t == 6) = false := by simpa using h6
  have g2 : (t == 2) = false := by simpa using h2
  have g7 : (t == 7) = false := by simpa using h7
  have g4 : (t == 4) = false := by simpa using h4
  have g5 : (t == 5) = false := by simpa using h5
  have g25 : (t == 25) = false := by simpa using h25
  clear h0 h1 h26 h6 h2 h7 h4 h5 h25
  go_wp2_with fail
  refine (H_V.out _ _ hKv).mono ?_
  intro e w1 hp
  obtain ⟨kd1, nn1, uu1, s1, B1, mm1, d1, B2, mm2, d2, rfl, ht1, hp⟩ := vpost_shape hp
  have hY1 := touch_row ht1 hYv hnY
  have HP := Lib.hid hp
  have n0 : w1.cell? ⟨w.heap.size + 1, 0, none⟩ = some (.int .i64 0) := cell_of_row _ _ _ _ _ _ hY1
  have n1 : w1.cell? ⟨w.heap.size + 1, 1, none⟩ = some (.int .i64 0) := cell_of_row _ _ _ _ _ _ hY1
  have n2 : w1.cell? ⟨w.heap.size + 1, 2, none⟩ = some (.int .u64 0) := cell_of_row _ _ _ _ _ _ hY1
  have n3 : w1.cell? ⟨w.heap.size + 1, 3, none⟩ = some (.string ⟨#[]⟩) := cell_of_row _ _ _ _ _ _ hY1
  have n4 : w1.cell? ⟨w.heap.size + 1, 4, none⟩ = some (.slice none 0 0) := cell_of_row _ _ _ _ _ _ hY1
  have n5 : w1.cell? ⟨w.heap.size + 1, 5, none⟩ = some (.slice none 0 0) := cell_of_row _ _ _ _ _ _ hY1
  have hfz := fun (j : Nat) => frozen_of_row _ _ j _ _ hY1
  clear hY1 hp hXv hZv x0 x1 x2 x3 x4 hKv
  go_wp2_with fail
  refine bodyPost_ret (v := .agg #[.int .i64 kd1, .int .i64 nn1, .int .u64 uu1, .string s1, .slice B1 mm1 d1, .slice B2 mm2 d2]) (by simp [results, Tryz.results17, go_sem, *]) rfl ?_
  exact npost_of2 (Y := w.heap.size + 1) H_K.out HP.out htv (touch6 _ _ _ _ _ _) gY (by omega) hlw hbw
end
end
section
open Go.RowKit
section
variable {w : World} {lk b o n cap : Nat} {D : List UInt8} {dp fu a0 : Int}
theorem rvec (F : Int) (dec : DecF) (hdg : DecGood F dec) (h : DSt 49 w lk b o n cap D dp fu a0 0) (hfu : InF F fu) (p q t k a d : Int) (ha0 : 0 ≤ a) (ha1 : a ≤ 1073741824) (hd0 : 0 ≤ d) (hd1 : d ≤ 2147483648) (hleg : legalB t = true)
    (HN : HypNode F 49 17 dec lk b o n cap D dp (lFrom D p q t k) (d + 1)) :
    Calls Tryz.prog 48 #[.pointer (some ⟨lk, 0, none⟩), .agg #[.int .i64 p, .int .i64 q, .int .i64 t, .int .i64 k], .int .i64 a, .int .i64 d] w (VPost 49 (kindD t) w lk b o n cap D dp (vecD dec D p q t k a d fu)) := by
  by_cases he : lfindE D p q t k = 0
  · by_cases t9 : t = 9
    · cases hk : keysD D k (lFrom D p q 9 k) (lCnt D p q 9 k) with
      | error y => exact rvec_k F dec hdg h hfu p q t k a d ha0 ha1 hd0 hd1 hleg HN he t9 y.1 y.2 hk _ rfl
      | ok ks => exact rvec_m F dec hdg h hfu p q t k a d ha0 ha1 hd0 hd1 hleg HN he t9 ks hk _ rfl
    · exact rvec_n F dec hdg h hfu p q t k a d ha0 ha1 hd0 hd1 hleg HN he t9 _ rfl
  · exact rvec_e F dec hdg h hfu p q t k a d ha0 ha1 hd0 hd1 hleg HN he _ rfl
end
set_option maxHeartbeats 1000000 in
theorem rnode {lk b o n cap : Nat} {D : List UInt8} {dp : Int} : ∀ (g : Nat), g ≤ 1073741824 → ∀ (w : World) (fu a0 p q t k lim d : Int), DSt 49 w lk b o n cap D dp fu a0 0 → 0 ≤ fu → fu ≤ g → 0 ≤ d → d + g ≤ 2147483648 → mayE n p q t k = 0 →
    Calls Tryz.prog 17 #[.pointer (some ⟨lk, 0, none⟩), .agg #[.int .i64 p, .int .i64 q, .int .i64 t, .int .i64 k], .int .i64 lim, .int .i64 d] w (NPost 49 w lk b o n cap D dp (decN D dp g p q t k lim d fu)) := by
  intro g
  induction g with
  | zero =>
    intro _ w fu a0 p q t k lim d h h0 h1 _ _ _
    rw [decN]
    dsimp only
    exact rnode_a h p q t k lim d (by omega) trivial
  | succ g ih =>
    intro hg w fu a0 p q t k lim d h h0 h1 hd0 hd1 hm
    rw [decN]
    dsimp only
    by_cases hf : fu = 0
    · rw [if_pos hf]; exact rnode_a h p q t k lim d hf trivial
    rw [if_neg hf]
    have hfu0 : 1 ≤ fu ∧ fu ≤ 1073741824 := by omega
    by_cases hdp : dp < d
    · rw [if_pos hdp]; exact rnode_b h p q t k lim d hfu0 hdp
    rw [if_neg hdp]
    obtain ⟨m1, m2, m3, m4, m5, m6, m7, m8, m9⟩ := mayE_zero hm
    obtain ⟨t0, t1⟩ := kindOf_in m1
    have hn1 := h.doc.bd.1
    by_cases hin : inlineB t = true
    · have e1 : ¬ (inlineB t = false ∧ tgtB D p q t k lim = false) := by simp [hin]
      rw [if_neg e1, if_pos hin]
      have ht : t = 0 ∨ t = 1 ∨ t = 26 ∨ t = 2 := by
        have h37 : ∀ t : Nat, t < 37 → inlineB t = true → t = 0 ∨ t = 1 ∨ t = 26 ∨ t = 2 := by decide
        have := h37 t.toNat (by omega) (by rw [show ((t.toNat : Nat) : Int) = t by omega]; exact hin)
        omega
      rcases ht with rfl | rfl | rfl | rfl
      · exact rnode_0 h p q k lim d hfu0 hdp hm
      · have e0 : bodyD (decN D dp g) D p q 1 k p d (fu - 1) = if splaceE D p q 1 k ≠ 0 then .error (p, splaceE D p q 1 k) else .ok (.mk (kindD 1) (intV D p q 1 k) 0 [] [] [], fu - 1) := by
          unfold bodyD; rw [if_neg (by omega), if_pos (by omega)]
        rw [e0]
        exact rnode_1 h p q k lim d p hfu0 hdp hm rfl
      · have e0 : bodyD (decN D dp g) D p q 26 k p d (fu - 1) = if splaceE D p q 26 k ≠ 0 then .error (p, splaceE D p q 26 k) else .ok (.mk (kindD 26) (intV D p q 26 k) 0 [] [] [], fu - 1) := by
          unfold bodyD; rw [if_neg (by omega), if_pos (by omega)]
        rw [e0]
        exact rnode_26 h p q k lim d p hfu0 hdp hm rfl
      · have e0 : bodyD (decN D dp g) D p q 2 k p d (fu - 1) = if splaceE D p q 2 k ≠ 0 then .error (p, splaceE D p q 2 k) else .ok (.mk (kindD 2) 0 (uintV D p q 2 k) [] [] [], fu - 1) := by
          unfold bodyD; rw [if_neg (by omega), if_neg (by omega), if_pos (by omega)]
        rw [e0]
        exact rnode_2 h p q k lim d p hfu0 hdp hm rfl
    · have hin' : inlineB t = false := by simpa using hin
      by_cases htb : tgtB D p q t k lim = true
      rotate_left
      · rw [if_pos ⟨hin', by simpa using htb⟩]
        exact rnode_c h p q t k lim d hfu0 hdp hm hin' htb
      rw [if_neg (by simp [htb]), if_neg hin]
      have hA : 0 ≤ p - loadV D p q ∧ p - loadV D p q ≤ 1073741824 := by
        have := tgtB_le' htb
        have := loadV_nonneg D p q
        omega
      obtain ⟨hA0, hA1⟩ := hA
      by_cases t6 : t = 6
      · subst t6
        exact rnode_6 h p q k lim d _ hfu0 hdp hm htb rfl _ (by unfold bodyD; rw [if_neg (by omega), if_pos (by omega)])
      by_cases t7 : t = 7
      · subst t7
        exact rnode_7 h p q k lim d _ hfu0 hdp hm htb rfl _ (by unfold bodyD; rw [if_neg (by omega), if_neg (by omega), if_pos (by omega)])
      by_cases t4 : t = 4
      · subst t4
        exact rnode_4 h p q k lim d _ hfu0 hdp hm htb rfl _ (by unfold bodyD; rw [if_neg (by omega), if_neg (by omega), if_neg (by omega), if_pos (by omega)])
      by_cases t5 : t = 5
      · subst t5
        exact rnode_5 h p q k lim d _ hfu0 hdp hm htb rfl _ (by unfold bodyD; rw [if_neg (by omega), if_neg (by omega), if_neg (by omega), if_pos (by omega)])
      by_cases t25 : t = 25
      · subst t25
        exact rnode_25 h p q k lim d _ hfu0 hdp hm htb rfl _ (by unfold bodyD; rw [if_neg (by omega), if_neg (by omega), if_neg (by omega), if_pos (by omega)])
      have hni : t ≠ 0 ∧ t ≠ 1 ∧ t ≠ 26 ∧ t ≠ 2 := by
        refine ⟨?_, ?_, ?_, ?_⟩ <;> (rintro rfl; revert hin; decide)
      obtain ⟨i0, i1, i26, i2⟩ := hni
      refine rnode_v h p q t k lim d _ hfu0 hdp hm hin' htb rfl ⟨i0, i1, i26, t6, i2, t7, t4, t5, t25⟩ _ (fun _ _ _ _ _ _ _ he => bodyD_kind he) (fun W a' hW => ?_)
      have e0 : bodyD (decN D dp g) D p q t k (p - loadV D p q) d (fu - 1) = vecD (decN D dp g) D p q t k (p - loadV D p q) d (fu - 1) := by
        unfold bodyD; rw [if_neg (by omega), if_neg (by omega), if_neg (by omega), if_neg (by omega)]
      rw [e0]
      refine rvec g (decN D dp g) (fun p q t k lim d fu T f hf he => ?_) hW ⟨by omega, by omega⟩ p q t k (p - loadV D p q) d hA0 hA1 hd0 (by omega) m1 ?_
      · have := decN_le g p q t k lim d fu T f hf.1 he
        have := hf.2
        exact ⟨by omega, by omega⟩
      · intro W' fu' a'' p' q' t' k' hW' hf' hm'
        exact ih (by omega) W' fu' a'' p' q' t' k' _ (d + 1) hW' hf'.1 hf'.2 (by omega) (by omega) hm'
end
end Go.Proofs.YtmpflnlajakibaaGreat
