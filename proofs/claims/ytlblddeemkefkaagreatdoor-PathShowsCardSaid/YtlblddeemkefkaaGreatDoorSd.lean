/- accordionlaw08.reads and leads. accordionlaw08's at, by, num, vec, table, few. -/
import Derived.Test.YtlblddeemkefkaaGreatDoorKk
import Derived.Test.YtlblddeemkefkaaGreatDoorSa
import Derived.Test.YtlblddeemkefkaaGreatDoorFb
import Derived.Test.YtlblddeemkefkaaGreatDoorKf
namespace Go.Proofs.YtlblddeemkefkaaGreatDoor
set_option linter.unusedVariables false
set_option linter.unusedSimpArgs false
section
section
open Go.RowKit
theorem SRow.rd {B : Nat} {w : World} {v : Value} {l : List PS} (h : SRow B w v l) : StepRd w v l := Rd.of_owns h
theorem SRow.below {B : Nat} {w w' : World} {v : Value} {l : List PS} (h : SRow B w v l) (hb : Below w.heap.size w w') : SRow B w' v l := h.keep fun k _ hk => hb.block k hk
set_option maxRecDepth 100000 in
set_option maxHeartbeats 4000000 in
theorem reads_any (s : List UInt8) (place e : Int) (want : List PS) (A : Option Addr) (c : Nat) (w : World) (hl : s.length ≤ 1048576) (hT : NamTabs w) (hq : StepRd w (.slice A want.length c) want) :
    Calls Tryz.prog 47 #[strV s, .int .i64 place, .int .i64 e, .slice A want.length c] w fun x w' => x = .returned (.bool (decide (parseM s = (want, place, e)))) ∧ Below w.heap.size w w' := by
  have HPA := Lib.hid (parse_any s w hl hT)
  have HQ := Lib.hid hq
  obtain ⟨r, hr⟩ : ∃ r, r = decide (parseM s = (want, place, e)) := ⟨_, rfl⟩
  rw [← hr]
  obtain ⟨⟨p, n, f⟩, hp⟩ : ∃ x, parseM s = x := ⟨_, rfl⟩
  rw [hp] at HPA hr
  have HR := Lib.hid hr
  unfold ParsePost strV at HPA
  dsimp only at HPA
  have HE := Lib.hid (fun (W : World) (hW : Below w.heap.size w W) (A' : Option Addr) (c' : Nat) (h : StepRd W (.slice A' p.length c') p) => eqsteps_any p want A' A c' c W h (Rd.below hq hW))
  clear hT hq hp hr
  generalize want.length = m at *
  unfold strV
  go_enter Tryz.func47, Tryz.ntmps47
  go_wp2_with fail
  refine HPA.out.mono ?_
  rintro x w1 ⟨⟨A1, c1, rfl, hS⟩, hb1⟩
  have HC := Lib.hid (HE.out w1 hb1 A1 c1 hS.rd)
  have HB := Lib.hid hb1
  clear hS hb1 HPA HE
  generalize p.length = q at *
  by_cases e0 : p = want
  · have HC2 := Lib.hid (show Calls Tryz.prog 16 #[.slice A1 q c1, .slice A m c] w1 fun e w' => e = .returned (.bool true) ∧ Below w1.heap.size w1 w' by
      have := HC.out
      rwa [decide_eq_true e0] at this)
    clear HC
    by_cases e1 : n = place
    · by_cases e2 : f = e
      · have HR2 := Lib.hid (show r = true by rw [HR.out, e0, e1, e2]; exact decide_eq_true rfl)
        clear HR e0
        subst e1 e2
        go_wp2_with fail
        refine HC2.out.mono ?_
        rintro x w2 ⟨rfl, hb2⟩
        go_wp2_with fail
        go_ret
        exact ⟨by rw [HR2.out]; rfl, HB.out.trans (hb2.mono HB.out.size)⟩
      · have HR2 := Lib.hid (show r = false by rw [HR.out]; exact decide_eq_false fun h => e2 (by injection h with _ h; injection h))
        have e5 : (f == e) = false := by simpa using e2
        clear HR e0 e2
        subst e1
        go_wp2_with fail
        refine HC2.out.mono ?_
        rintro x w2 ⟨rfl, hb2⟩
        go_wp2_with fail
        go_ret
        exact ⟨by rw [HR2.out]; rfl, HB.out.trans (hb2.mono HB.out.size)⟩
    · have HR2 := Lib.hid (show r = false by rw [HR.out]; exact decide_eq_false fun h => e1 (by injection h with _ h; injection h))
      have e5 : (n == place) = false := by simpa using e1
      clear HR e0 e1
      go_wp2_with fail
      refine HC2.out.mono ?_
      rintro x w2 ⟨rfl, hb2⟩
      go_wp2_with fail
      go_ret
      exact ⟨by rw [HR2.out]; rfl, HB.out.trans (hb2.mono HB.out.size)⟩
  · have HR2 := Lib.hid (show r = false by rw [HR.out]; exact decide_eq_false fun h => e0 (by injection h))
    have HC2 := Lib.hid (show Calls Tryz.prog 16 #[.slice A1 q c1, .slice A m c] w1 fun e w' => e = .returned (.bool false) ∧ Below w1.heap.size w1 w' by
      have := HC.out
      rwa [decide_eq_false e0] at this)
    clear HC HR e0
    go_wp2_with fail
    refine HC2.out.mono ?_
    rintro x w2 ⟨rfl, hb2⟩
    go_wp2_with fail
    go_ret
    exact ⟨by rw [HR2.out]; rfl, HB.out.trans (hb2.mono HB.out.size)⟩
set_option maxRecDepth 100000 in
set_option maxHeartbeats 4000000 in
/-- leads says yes where Get leads to that tree. -/
theorem leads8_any (T W : DT) (e : Int) (p : List PS) (w : World) (x0 x1 x2 x3 x4 x5 y0 y1 y2 y3 y4 y5 : Value) (A : Option Addr) (c : Nat) (hx : RRep w T [x0, x1, x2, x3, x4, x5]) (hy : RRep w W [y0, y1, y2, y3, y4, y5]) (hsm : SmallD T) (hp : StepRd w (.slice A p.length c) p) (hr : getR T p = (W, e)) :
    Calls Tryz.prog 31 #[.agg #[x0, x1, x2, x3, x4, x5], .agg #[y0, y1, y2, y3, y4, y5], .int .i64 e, .slice A p.length c] w fun x w' => x = .returned (.bool true) ∧ Below w.heap.size w w' := by
  have HG := Lib.hid (fun (V : World) (hV : Below w.heap.size w V) => get_any T p V x0 x1 x2 x3 x4 x5 A c (RRep.below hV _ _ hx) hsm (Rd.below hp hV))
  rw [hr] at HG
  have HE := Lib.hid (fun (V : World) (z0 z1 z2 z3 z4 z5 : Value) (hV : Below w.heap.size w V) (hz : RRep V W [z0, z1, z2, z3, z4, z5]) => eqnodeR_true W V V z0 z1 z2 z3 z4 z5 y0 y1 y2 y3 y4 y5 (Below.refl _ _) hz (RRep.below hV _ _ hy))
  obtain ⟨kd, nn, u, s, A1, m1, c1, A2, m2, c2, hcs⟩ := hx.cs6
  simp only [List.cons.injEq, and_true] at hcs
  obtain ⟨rfl, rfl, rfl, rfl, rfl, rfl⟩ := hcs
  obtain ⟨kd', nn', u', s', A1', m1', c1', A2', m2', c2', hcs⟩ := hy.cs6
  simp only [List.cons.injEq, and_true] at hcs
  obtain ⟨rfl, rfl, rfl, rfl, rfl, rfl⟩ := hcs
  clear hx hy hp hsm hr
  generalize p.length = n at *
  go_enter Tryz.func31, Tryz.ntmps31
  go_upto_region 1 with fail
  refine wp_named (fun wn => Below w.heap.size w wn ∧ wn.heap[w.heap.size]? = some (.cells #[.int .i64 kd, .int .i64 nn, .int .u64 u, .string s, .slice A1 m1 c1, .slice A2 m2 c2] 38 (0, 0)) ∧ wn.heap[w.heap.size + 1]? = some (.cells #[.int .i64 kd', .int .i64 nn', .int .u64 u', .string s', .slice A1' m1' c1', .slice A2' m2' c2'] 38 (0, 0))) ⟨by exact zw, ?_, ?_⟩ ?_
  · exact (Below.heap_alloc _ _ _ (by simp)).trans (heap_alloc_new _ _)
  · have := heap_alloc_new (w.alloc (.cells #[.int .i64 kd, .int .i64 nn, .int .u64 u, .string s, .slice A1 m1 c1, .slice A2 m2 c2] 38)) (.cells #[.int .i64 kd', .int .i64 nn', .int .u64 u', .string s', .slice A1' m1' c1', .slice A2' m2' c2'] 38)
    rw [World.size_alloc] at this
    exact this
  rintro wn ⟨hbn, hXn, hYn⟩
  obtain ⟨z0, z1, z2, z3, z4, z5⟩ := cells6 hXn
  have HX := Lib.hid hXn
  have HY := Lib.hid hYn
  have HB := Lib.hid hbn
  have hz1 : w.heap.size + 1 < wn.heap.size := (Array.getElem?_eq_some_iff.1 hYn).1
  clear hXn hYn hbn
  go_wp2_with fail
  refine (HG.out _ HB.out).mono ?_
  rintro x w1 ⟨⟨v, rfl, hF⟩, hb1⟩
  obtain ⟨a0, a1, a2, a3, a4, a5, bs, rfl, hn1, -, -⟩ := hF
  obtain ⟨kd1, nn1, uu1, s1, B1, k1, d1, B2, k2, d2, rfl, rfl, rfl, rfl, rfl, rfl⟩ := hn1.form2
  have HN := Lib.hid (NRep.reads _ _ _ hn1)
  have HY1 := Lib.hid ((hb1.block _ hz1).trans HY.out)
  have HB1 := Lib.hid (HB.out.trans (hb1.mono HB.out.size))
  have hzw : w.heap.size + 1 < w1.heap.size := Nat.lt_of_lt_of_le hz1 hb1.size
  clear z0 z1 z2 z3 z4 z5 hn1 hb1 HX HY
  go_upto_region 2 with fail
  refine wp_named (fun wx => Below w1.heap.size w1 wx ∧ wx.heap[w1.heap.size]? = some (.cells #[.int .i64 kd1, .int .i64 nn1, .int .u64 uu1, .string s1, .slice B1 k1 d1, .slice B2 k2 d2] 38 (0, 0))) ⟨(Below.refl _ w1).alloc (Nat.le_refl _) _, heap_alloc_new _ _⟩ ?_
  rintro wx ⟨hbx, hXx⟩
  obtain ⟨z0, z1, z2, z3, z4, z5⟩ := cells6 hXx
  obtain ⟨t0, t1, t2, t3, t4, t5⟩ := cells6 ((hbx.block _ hzw).trans HY1.out)
  have HBX := Lib.hid (HB1.out.trans (hbx.mono HB1.out.size))
  have HC := Lib.hid (HE.out wx _ _ _ _ _ _ HBX.out (RRep.below hbx _ _ HN.out))
  have hz3 : w1.heap.size < wx.heap.size := (Array.getElem?_eq_some_iff.1 hXx).1
  have hz4 : w.heap.size + 1 < wx.heap.size := Nat.lt_of_lt_of_le hzw hbx.size
  clear hbx hXx
  go_wp2_with fail
  refine HC.out.mono ?_
  rintro x w2 ⟨rfl, hb2⟩
  go_wp2_with fail
  go_ret
  exact ⟨rfl, HBX.out.trans (hb2.mono HBX.out.size)⟩
end
end
section
section
open Go.RowKit
theorem at8_any (n : Int) (w : World) : Calls Tryz.prog 30 #[.int .i64 n] w fun e w' => e = .returned (.agg #[.string ⟨#[]⟩, .int .i64 n, .bool false]) ∧ Below w.heap.size w w' := by
  go_enter Tryz.func30, Tryz.ntmps30
  go_wp2_with fail
  (refine bodyPost_ret (v := .agg #[.string ⟨#[]⟩, .int .i64 n, .bool false]) (by simp [results, Tryz.results30, go_sem, *]) rfl ?_)
  exact ⟨rfl, by exact zw⟩
theorem by8_any (k : ByteArray) (w : World) : Calls Tryz.prog 32 #[.string k] w fun e w' => e = .returned (.agg #[.string k, .int .i64 0, .bool true]) ∧ Below w.heap.size w w' := by
  go_enter Tryz.func32, Tryz.ntmps32
  go_wp2_with fail
  (refine bodyPost_ret (v := .agg #[.string k, .int .i64 0, .bool true]) (by simp [results, Tryz.results32, go_sem, *]) rfl ?_)
  exact ⟨rfl, by exact zw⟩
theorem num8_any (n : Int) (w : World) : Calls Tryz.prog 35 #[.int .i64 n] w fun e w' => e = .returned (.agg #[.int .i64 3, .int .i64 n, .int .u64 0, .string ⟨#[]⟩, .slice none 0 0, .slice none 0 0]) ∧ Below w.heap.size w w' := by
  go_enter Tryz.func35, Tryz.ntmps35
  go_wp2_with fail
  (refine bodyPost_ret (v := .agg #[.int .i64 3, .int .i64 n, .int .u64 0, .string ⟨#[]⟩, .slice none 0 0, .slice none 0 0]) (by simp [results, Tryz.results35, go_sem, *]) rfl ?_)
  exact ⟨rfl, by exact zw⟩
theorem vec8_any (A : Option Addr) (n c : Nat) (w : World) : Calls Tryz.prog 36 #[.slice A n c] w fun e w' => e = .returned (.agg #[.int .i64 10, .int .i64 0, .int .u64 0, .string ⟨#[]⟩, .slice none 0 0, .slice A n c]) ∧ Below w.heap.size w w' := by
  go_enter Tryz.func36, Tryz.ntmps36
  go_wp2_with fail
  (refine bodyPost_ret (v := .agg #[.int .i64 10, .int .i64 0, .int .u64 0, .string ⟨#[]⟩, .slice none 0 0, .slice A n c]) (by simp [results, Tryz.results36, go_sem, *]) rfl ?_)
  exact ⟨rfl, by exact zw⟩
theorem table8_any (A A' : Option Addr) (n c n' c' : Nat) (w : World) : Calls Tryz.prog 34 #[.slice A n c, .slice A' n' c'] w fun e w' => e = .returned (.agg #[.int .i64 17, .int .i64 0, .int .u64 0, .string ⟨#[]⟩, .slice A n c, .slice A' n' c']) ∧ Below w.heap.size w w' := by
  go_enter Tryz.func34, Tryz.ntmps34
  go_wp2_with fail
  (refine bodyPost_ret (v := .agg #[.int .i64 17, .int .i64 0, .int .u64 0, .string ⟨#[]⟩, .slice A n c, .slice A' n' c']) (by simp [results, Tryz.results34, go_sem, *]) rfl ?_)
  exact ⟨rfl, by exact zw⟩
end
end
end Go.Proofs.YtlblddeemkefkaaGreatDoor
