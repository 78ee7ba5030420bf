/- The walk of DecodeParts. -/
import Derived.Test.YtmpflnlajakibaaCD8
import Derived.Test.YtmpflnlajakibaaCD9
import Derived.Test.YtmpflnlajakibaaDn
import Derived.Test.YtmpflnlajakibaaDk
import Derived.Deep.RegionHeld3
namespace Go.Proofs.Ytmpflnlajakibaa
set_option linter.unusedVariables false
set_option linter.unusedSimpArgs false
open Go.RowKit
def TreeP (v : Value) (D : List UInt8) (p q t k dp fuel : Int) (r : DO) : Prop := ∀ W, Byt W v D → Calls Try.prog 19 #[v, .agg #[.int .i64 p, .int .i64 q, .int .i64 t, .int .i64 k], .int .i64 dp, .int .i64 fuel] W (TPost W r)
theorem treeP (v : Value) (D : List UInt8) (p q t k dp fuel : Int) (hf : fuel ≤ 1073741824) : TreeP v D p q t k dp fuel (treeD D dp fuel p q t k) := by
  rintro W (⟨rfl, rfl⟩ | ⟨b, o, cap, rfl, hD⟩)
  · exact dtree_nil W p q t k dp fuel
  · exact dtree_doc hD p q t k dp fuel hf
theorem leaf_any (kd : Int) (w : World) : Calls Try.prog 20 #[.int .i64 kd] w fun e w' => e = .returned (.bool (leafK kd)) ∧ w = w' := by
  by_cases h1 : 1 ≤ kd
  · have hl : leafK kd = decide (kd ≤ 9) := by simp [leafK, h1]
    rw [hl]
    go_enter Try.func20, Try.ntmps20
    go_wp2
    go_returns
    exact ⟨rfl, rfl⟩
  · have hl : leafK kd = false := by simp [leafK, h1]
    rw [hl]
    go_enter Try.func20, Try.ntmps20
    go_wp2
    go_returns
    exact ⟨rfl, rfl⟩
theorem cells4 {w : World} {Y : Nat} {v0 v1 v2 v3 : Value} {ty : TypeId} (h : w.heap[Y]? = some (.cells #[v0, v1, v2, v3] ty (0, 0))) :
    w.cell? ⟨Y, 0, none⟩ = some v0 ∧ w.cell? ⟨Y, 1, none⟩ = some v1 ∧ w.cell? ⟨Y, 2, none⟩ = some v2 ∧ w.cell? ⟨Y, 3, none⟩ = some v3 :=
  ⟨cell_of_row _ _ _ _ _ _ h, cell_of_row _ _ _ _ _ _ h, cell_of_row _ _ _ _ _ _ h, cell_of_row _ _ _ _ _ _ h⟩
set_option maxHeartbeats 8000000 in
set_option maxRecDepth 100000 in
theorem parts_core (a0 : Option Addr) (len0 cap0 : Nat) (p q t k fu : Int) (w : World) (hF : FrontOk 600 w a0 len0 cap0) :
    Calls Try.prog 8 #[.slice a0 len0 cap0, .agg #[.int .i64 p, .int .i64 q, .int .i64 t, .int .i64 k], .int .i64 fu] w fun e w' => e = .returned (.bool true) ∧ Below w.heap.size w w' := by
  obtain ⟨k5, c, L, hk, hL, hk5, hsl, hcp, hcv⟩ := hF
  have hsl' : ∀ W : World, (Instr.slice 22 (.slice a0 len0 cap0) none (some (.int .i64 (min (len0 : Int) 600))) none).run Try.prog W = .ok (.slice a0 k5 c) W := hsl
  have HCP := Lib.hid hcp
  clear hcp hk hsl hcv
  obtain ⟨m, hm⟩ : ∃ m, min fu 500 = m := ⟨_, rfl⟩
  have hm5 : m ≤ 500 := by omega
  have HX := fun v => treeP v L p q t k 64 m (by omega)
  have HV := fun kd nn u s ks l f a => @treeD_parts L 64 m p q t k kd nn u s ks l f a
  simp only [show (64 : Int) - 1 = 63 from rfl] at HV
  generalize treeD L 64 m p q t k = r at HX HV
  obtain ⟨⟨kd, nn, u, s, ks, l⟩, f, a, er⟩ := r
  have HX' := Lib.hid HX
  have HV' := Lib.hid HV
  clear HX HV hL hk5
  go_enter Try.func8, Try.ntmps8
  go_upto_region 2 with fail
  refine (HCP.out _ zw).mono ?_
  rintro e w1 ⟨⟨v, rfl, hv⟩, hb1⟩
  have hz1 := hb1.size
  simp only [zsz] at hz1
  go_upto_region 2 with fail
  refine wp_named (fun wn => Below w.heap.size w wn ∧ Byt wn v L ∧ wn.heap[w.heap.size]? = some (.cells #[.int .i64 p, .int .i64 q, .int .i64 t, .int .i64 k] 39 (0, 0))) ⟨by exact zw, hv, ?_⟩ ?_
  · exact (hb1.block _ (by simp)).trans (heap_alloc_new w _)
  clear hb1 hv hz1
  generalize hG : w.heap.size = G
  rintro w0 ⟨hb0, hv, hR⟩
  rw [← hG] at hb0
  have hz0 := hb0.size
  obtain ⟨r0, r1, r2, r3⟩ := cells4 hR
  go_wp2_with fail
  refine (HX'.out v _ hv).mono ?_
  rintro e w2 ⟨kd1, nn1, uu1, ss1, A1, ma1, ca1, B1, mb1, cb1, bs1, rfl, hr1, -, -, hb2⟩
  dsimp only
  have hz2 := hb2.size
  obtain ⟨⟨hkd, hmb⟩, -⟩ := rep_kids hr1
  injection hkd with _ hkd
  subst hkd
  have HMB := Lib.hid hmb
  clear hmb
  have HR1 := Lib.hid hr1
  clear hr1 r0 r1 r2 r3
  go_upto_region 4 with fail
  refine wp_named (fun W => Below w0.heap.size w0 W ∧ Below w2.heap.size w2 W ∧ W.heap[w2.heap.size]? = some (.cells #[.int .i64 kd1, .int .i64 nn1, .int .u64 uu1, .string ss1, .slice A1 ma1 ca1, .slice B1 mb1 cb1] 44 (0, 0))) ⟨by exact zw, by exact zw, heap_alloc_new _ _⟩ ?_
  rintro wu ⟨hbu, hbu2, hY⟩
  replace HR1 := Lib.hid (HR1.out.below hbu2)
  clear hbu2 hb2
  generalize w2.heap.size = Y at *
  obtain ⟨y0, y1, y2, y3, y4, y5⟩ := cells6 hY
  have hzu := hbu.size
  have hbwu := hb0.trans (hbu.mono hz0)
  have hzwu := hbwu.size
  by_cases her : er = 0
  rotate_left
  · have her' : (er != 0) = true := by simpa using her
    clear her HX' HV' HR1
    go_wp2_with fail
    refine (works_true _).mono ?_
    rintro e w9 ⟨rfl, hb9⟩
    have hb9' := hbwu.trans (hb9.mono hzwu)
    go_wp2_with fail
    go_returns
    exact ⟨rfl, hb9'⟩
  subst her
  by_cases hlk : leafK kd1 = true
  · clear HX' HV' HR1
    go_wp2_with fail
    refine (leaf_any kd1 _).mono ?_
    rintro e w8 ⟨rfl, rfl⟩
    rw [hlk]
    go_wp2_with fail
    refine (works_true _).mono ?_
    rintro e w9 ⟨rfl, hb9⟩
    have hb9' := hbwu.trans (hb9.mono hzwu)
    go_wp2_with fail
    go_returns
    exact ⟨rfl, hb9'⟩
  have hlk' : leafK kd1 = false := by simpa using hlk
  obtain ⟨hm1, hE, hC, F, F0, Fn, Fb, Fs⟩ := HV'.out _ _ _ _ _ _ _ _ rfl hlk'
  clear HV' HX' hlk
  rcases hv with ⟨rfl, rfl⟩ | ⟨b, o, cap, rfl, hD⟩
  · exact absurd (targetE_zero (lfindE_zero hE).1).1 (mayE_nil p q t k)
  have HKX := Lib.hid (rep_kids HR1.out).2
  have HLen := Lib.hid (fun (W : World) (hW : Below w0.heap.size w0 W) => len_any b o L.length cap L p q t k W (hD.below hW))
  rw [hC, hE] at HLen
  have HFs := Lib.hid Fs
  have HDc := Lib.hid hD
  have HFb := Lib.hid Fb
  clear Fs Fb hD hE hC
  have hn := HMB.out
  rw [← hn] at HLen Fn
  clear HMB
  have HN := Lib.hid hn
  have hnb : mb1 ≤ 9223372036854775807 := by rw [hn]; exact rep_bound HR1.out
  clear hn HR1
  obtain ⟨r0, r1, r2, r3⟩ := cells4 (below_row hR hbu)
  go_wp2_with fail
  refine (leaf_any kd1 _).mono ?_
  rintro e w8 ⟨rfl, rfl⟩
  rw [hlk']
  go_wp2_with fail
  refine (HLen.out _ hbu).mono ?_
  rintro e w3 ⟨rfl, hb3⟩
  have hb03 := hbu.trans (hb3.mono hzu)
  clear r0 r1 r2 r3 y0 y1 y2 y3 y4 y5
  obtain ⟨y0, y1, y2, y3, y4, y5⟩ := cells6 (below_row hY hb3)
  go_upto_region 9 with fail
  refine wp_named (fun W => Below w0.heap.size w0 W ∧ Below wu.heap.size wu W) ⟨by exact zw, by exact zw⟩ ?_
  clear y0 y1 y2 y3 y4 y5 hb03 hb3 hbu HLen
  rintro wl ⟨hbl, hbl2⟩
  go_wp2_with fail
  go_loopw [14, 15] (fun u i wr => ∃ j : Nat, j ≤ mb1 ∧ i = .int .i64 j ∧ u = .int .i64 (m - F j) ∧ Below w0.heap.size w0 wr ∧ Below wu.heap.size wu wr) (fun _ i _ => mb1 - (intOf i).toNat)
  case atStart => exact ⟨0, by omega, rfl, by rw [F0]; congr 1; omega, hbl, hbl2⟩
  case round =>
    clear hbl hbl2
    obtain ⟨j, hj, rfl, rfl, hbr, hbr2⟩ := hrel
    have hzr := hbr.size
    have hzr2 := hbr2.size
    by_cases h1 : j < mb1
    · have h1' : (j : Int) < (mb1 : Int) := by omega
      have hjl : j < l.length := by rw [← HN.out]; exact h1
      obtain ⟨e1, e2⟩ := HFs.out j hjl
      obtain ⟨f0, f1⟩ := HFb.out j (by omega)
      obtain ⟨f2, f3⟩ := HFb.out (j + 1) (by omega)
      have hAt := fun (W : World) (hW : Below w0.heap.size w0 W) => lat_any b o L.length cap L p q t k j W (HDc.out.below hW)
      simp only [latV, e1] at hAt
      have HAt := Lib.hid hAt
      have HTr := Lib.hid (fun (W : World) (hW : Below w0.heap.size w0 W) => e2 ▸ dtree_doc (HDc.out.below hW) (latP L p q t k j) (latQ L p q t k j) (latT L p q t k j) (latW L p q t k j) 63 m (by omega))
      have hF1 : m - (F j - F (j + 1)) = m - F j + F (j + 1) := by omega
      rw [hF1] at HTr
      clear e1 e2 hAt hF1
      generalize latP L p q t k j = P at *
      generalize latQ L p q t k j = Q at *
      generalize latT L p q t k j = U at *
      generalize latW L p q t k j = V at *
      generalize hf : F (j + 1) = fj at *
      generalize hg : F j = gj at *
      have q1 : IntKind.i64.wrap (m - gj + m) = m - gj + m := IntWalk.i64_in _ (by omega)
      have q2 : IntKind.i64.wrap (m - gj + m - (m - gj + fj)) = m - fj := by rw [IntWalk.i64_in _ (by omega)]; omega
      obtain ⟨r0, r1, r2, r3⟩ := cells4 (below_row hR hbr)
      go_wp2_with fail
      refine (HAt.out _ hbr).mono ?_
      rintro e w4 ⟨rfl, hb4⟩
      have hb04 := hbr.trans (hb4.mono hzr)
      have hbu4 := hbr2.trans (hb4.mono hzr2)
      have hz04 := hb04.size
      have hzu4 := hbu4.size
      clear r0 r1 r2 r3
      go_upto_region 14 with fail
      refine wp_named (fun W => Below w0.heap.size w0 W ∧ Below wu.heap.size wu W ∧ W.heap[w4.heap.size]? = some (.cells #[.int .i64 P, .int .i64 Q, .int .i64 U, .int .i64 V] 39 (0, 0))) ⟨by exact zw, by exact zw, heap_alloc_new _ _⟩ ?_
      clear hb04 hbu4 hb4 HAt
      generalize w4.heap.size = X
      rintro w5 ⟨hb5, hbu5, hX5⟩
      have hz5 := hb5.size
      have hzu5 := hbu5.size
      obtain ⟨r0, r1, r2, r3⟩ := cells4 hX5
      go_wp2_with fail
      refine (HTr.out _ hb5).mono ?_
      rintro e w6 ⟨kd2, nn2, uu2, ss2, A2, ma2, ca2, B2, mb2, cb2, bs2, rfl, hr2, -, -, hb6⟩
      dsimp only
      have HR2 := Lib.hid hr2
      have hb06 := hb5.trans (hb6.mono hz5)
      have hbu6 := hbu5.trans (hb6.mono hzu5)
      have hz06 := hb06.size
      have hzu6 := hbu6.size
      clear r0 r1 r2 r3 hr2 HTr hX5
      go_upto_region 15 with fail
      refine wp_named (fun W => Below w0.heap.size w0 W ∧ Below wu.heap.size wu W ∧ Below w6.heap.size w6 W ∧ W.heap[w6.heap.size]? = some (.cells #[.int .i64 kd2, .int .i64 nn2, .int .u64 uu2, .string ss2, .slice A2 ma2 ca2, .slice B2 mb2 cb2] 44 (0, 0))) ⟨by exact zw, by exact zw, by exact zw, heap_alloc_new _ _⟩ ?_
      clear hb06 hbu6 hb6 hb5 hbu5
      rintro w7 ⟨hb7, hbu7, hb67, hZ⟩
      replace HR2 := Lib.hid (HR2.out.below hb67)
      clear hb67
      generalize w6.heap.size = Z at *
      obtain ⟨g, rfl, hg7, v0, v1, v2, v3, v4, v5, b3, hN, -, c0, c1, c2, c3, c4, c5⟩ := HKX.out w7 hbu7 j hjl
      obtain ⟨z0, z1, z2, z3, z4, z5⟩ := cells6 hZ
      have hY7 := below_row hY hbu7
      have y5 : w7.cell? ⟨Y, 5, none⟩ = some (.slice (some ⟨g, 0, none⟩) mb1 cb1) := cell_of_row _ _ _ _ _ _ hY7
      have HE := Lib.hid (fun (W : World) (hW : Below w7.heap.size w7 W) => eqnode_true _ W _ _ _ _ _ _ _ _ _ _ _ _ _ _ (HR2.out.below hW) (hN.below hW))
      have gZ : Z < w7.heap.size := (Array.getElem?_eq_some_iff.1 hZ).1
      have gY : Y < w7.heap.size := (Array.getElem?_eq_some_iff.1 hY7).1
      have e0 : (0 : Nat) + j * 6 = j * 6 := by omega
      have hz7 := hb7.size
      have hzu7 := hbu7.size
      clear hN HR2 hZ hY7
      go_region_held3 (fun w' => w'.cell? ⟨Y, 5, none⟩ = some (.slice (some ⟨g, 0, none⟩) mb1 cb1) ∧ w'.cell? ⟨g, j * 6, none⟩ = some v0 ∧ w'.cell? ⟨g, j * 6 + 1, none⟩ = some v1 ∧ w'.cell? ⟨g, j * 6 + 2, none⟩ = some v2 ∧ w'.cell? ⟨g, j * 6 + 3, none⟩ = some v3 ∧ w'.cell? ⟨g, j * 6 + 4, none⟩ = some v4 ∧ w'.cell? ⟨g, j * 6 + 5, none⟩ = some v5 ∧ w'.cell? ⟨Z, 0, none⟩ = some (.int .i64 kd2) ∧ w'.cell? ⟨Z, 1, none⟩ = some (.int .i64 nn2) ∧ w'.cell? ⟨Z, 2, none⟩ = some (.int .u64 uu2) ∧ w'.cell? ⟨Z, 3, none⟩ = some (.string ss2) ∧ w'.cell? ⟨Z, 4, none⟩ = some (.slice A2 ma2 ca2) ∧ w'.cell? ⟨Z, 5, none⟩ = some (.slice B2 mb2 cb2)) (first | (with_reducible exact ⟨y5, c0, c1, c2, c3, c4, c5, z0, z1, z2, z3, z4, z5⟩) | (with_reducible exact ks) | (refine ⟨?_, ?_, ?_, ?_, ?_, ?_, ?_, ?_, ?_, ?_, ?_, ?_, ?_⟩ <;> go_keep)) (((go_at_call 24; refine (HE.out _ zw).mono ?_; rintro e w1 ⟨rfl, hb1⟩; obtain ⟨hc1, hf1, hl1⟩ := bcell hb1; (try simp only [zdz] at hc1 hf1 hl1); have hz1 := hb1.size; (try simp only [zsz] at hz1); (try have g0 : w.heap.size < w1.heap.size := by omega); (try have g1 : w.heap.size + 1 < w1.heap.size := by omega); (try have g2 : w.heap.size + 2 < w1.heap.size := by omega); (try have gb : b < w1.heap.size := by omega); (try have g3 : w.heap.size + 3 < w1.heap.size := by omega); (try have hbb : Below w.heap.size w w1 := zw); (try obtain ⟨hco, hfo, _⟩ := bcell hbb); (try have hb1 := hb1)); (have ks : w1.cell? ⟨Y, 5, none⟩ = some (.slice (some ⟨g, 0, none⟩) mb1 cb1) ∧ w1.cell? ⟨g, j * 6, none⟩ = some v0 ∧ w1.cell? ⟨g, j * 6 + 1, none⟩ = some v1 ∧ w1.cell? ⟨g, j * 6 + 2, none⟩ = some v2 ∧ w1.cell? ⟨g, j * 6 + 3, none⟩ = some v3 ∧ w1.cell? ⟨g, j * 6 + 4, none⟩ = some v4 ∧ w1.cell? ⟨g, j * 6 + 5, none⟩ = some v5 ∧ w1.cell? ⟨Z, 0, none⟩ = some (.int .i64 kd2) ∧ w1.cell? ⟨Z, 1, none⟩ = some (.int .i64 nn2) ∧ w1.cell? ⟨Z, 2, none⟩ = some (.int .u64 uu2) ∧ w1.cell? ⟨Z, 3, none⟩ = some (.string ss2) ∧ w1.cell? ⟨Z, 4, none⟩ = some (.slice A2 ma2 ca2) ∧ w1.cell? ⟨Z, 5, none⟩ = some (.slice B2 mb2 cb2) := ⟨(hc1 _ _ gY).trans y5, (hc1 _ _ hg7).trans c0, (hc1 _ _ hg7).trans c1, (hc1 _ _ hg7).trans c2, (hc1 _ _ hg7).trans c3, (hc1 _ _ hg7).trans c4, (hc1 _ _ hg7).trans c5, (hc1 _ _ gZ).trans z0, (hc1 _ _ gZ).trans z1, (hc1 _ _ gZ).trans z2, (hc1 _ _ gZ).trans z3, (hc1 _ _ gZ).trans z4, (hc1 _ _ gZ).trans z5⟩)))
      all_goals go_wp2_with fail
      all_goals go_roundw
      case rel => exact ⟨j + 1, by omega, by go_num, by rw [hf], by exact zw, by exact zw⟩
      case measure => simp only [intOf]; omega
    · have h1' : ¬ (j : Int) < (mb1 : Int) := by omega
      have hjn : j = mb1 := by omega
      subst hjn
      have hfb := HFb.out j (by rw [← HN.out]; exact Nat.le_refl _)
      rw [Fn] at hfb ⊢
      have q1 : IntKind.i64.wrap (m - f) = m - f := IntWalk.i64_in _ (by omega)
      have hbwr := hb0.trans (hbr.mono hz0)
      have hzwr := hbwr.size
      go_wp2_with fail
      refine (works_true _).mono ?_
      rintro e w9 ⟨rfl, hb9⟩
      have hb9' := hbwr.trans (hb9.mono hzwr)
      go_wp2_with fail
      go_returns
      exact ⟨rfl, hb9'⟩
theorem parts_walk (a0 : Option Addr) (len0 cap0 : Nat) (z0 : List Int) (p q t k fu : Int) (w : World) (w0 : IsRow .u8 w a0 len0 cap0 z0) :
    Calls Try.prog 8 #[.slice a0 len0 cap0, .agg #[.int .i64 p, .int .i64 q, .int .i64 t, .int .i64 k], .int .i64 fu] w fun e w' => e = .returned (.bool true) ∧ Below w.heap.size w w' :=
  parts_core a0 len0 cap0 p q t k fu w (front2 600 (by omega) w0)
end Go.Proofs.Ytmpflnlajakibaa
