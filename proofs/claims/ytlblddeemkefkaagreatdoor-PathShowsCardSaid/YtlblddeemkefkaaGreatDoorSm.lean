/- The walk of accordionlaw08.PathBack. What the path rows' listed variables give the walks; a world that meets the condition; paths and trees that come in. -/
import Derived.Test.YtlblddeemkefkaaGreatDoorSf
import Derived.Test.YtlblddeemkefkaaGreatDoorRows
import Derived.ProofKit
import Derived.LaidMore
import Derived.Lay
import Derived.Lib.LaidU8
import Derived.Lib.LaidTab
import Derived.PinnedBridge
import Derived.LaidLaws
import Derived.OpenShut
import Derived.Stop.Joined
import Derived.Stop.LaidErr
import Derived.ChangeOld
import Derived.Carry
import Derived.Below
namespace Go.Proofs.YtlblddeemkefkaaGreatDoor
set_option linter.unusedVariables false
set_option linter.unusedSimpArgs false
set_option linter.unusedSectionVars false
section
section
open Go.RowKit
theorem cutP_mem {p : List PS} {s : PS} (h : s ∈ cutP p) : ∃ t ∈ p, s = (t.1.take 40, t.2) := by
  unfold cutP at h
  obtain ⟨t, ht, rfl⟩ := List.mem_map.1 h
  exact ⟨t, List.mem_of_mem_take ht, rfl⟩
/-- The numbers of a path that came in. -/
def StepsOk (p : List PS) : Prop := ∀ s ∈ p, s.1.length ≤ 9223372036854775807 ∧ -9223372036854775808 ≤ s.2.1 ∧ s.2.1 ≤ 9223372036854775807
theorem cutP_ok {p : List PS} (h : StepsOk p) : ∀ s ∈ cutP p, s.1.length ≤ 600 ∧ -9223372036854775808 ≤ s.2.1 ∧ s.2.1 ≤ 9223372036854775807 := by
  intro s hs
  obtain ⟨t, ht, rfl⟩ := cutP_mem hs
  have := h t ht
  refine ⟨?_, this.2⟩
  simp only [List.length_take]
  omega
theorem cutP_short {p : List PS} (h : StepsOk p) : ∀ s ∈ cutP p, (stepT s).length ≤ 300 := by
  intro s hs
  obtain ⟨t, ht, rfl⟩ := cutP_mem hs
  obtain ⟨-, h1, h2⟩ := h t ht
  unfold stepT
  dsimp only
  have hq := quoL_len (t.1.take 40)
  have hi := Lib.itoa_length_le t.2.1 h1 h2
  rw [List.length_take] at hq
  split
  · simp only [List.length_cons, List.length_append, List.length_nil]; omega
  · simp only [List.length_cons, List.length_append, List.length_nil]; omega
theorem flat_le {p : List PS} (h : ∀ s ∈ p, (stepT s).length ≤ 300) : (p.flatMap stepT).length ≤ 300 * p.length := by
  induction p with
  | nil => simp
  | cons s p ih =>
    have h1 := h s (by simp)
    have h2 := ih fun x hx => h x (by simp [hx])
    rw [List.flatMap_cons, List.length_append, List.length_cons]
    omega
theorem show_len {p : List PS} (h : StepsOk p) : (showM (cutP p)).1.length ≤ 1048576 := by
  unfold showM
  split
  · simp
  · split
    · have h1 := flat_le (cutP_short h)
      have h2 := cutP_len p
      show ((cutP p).flatMap stepT).length ≤ 1048576
      omega
    · simp
set_option maxRecDepth 100000 in
set_option maxHeartbeats 4000000 in
theorem pathBack_any (p : List PS) (A : Option Addr) (c : Nat) (w : World) (hp : StepRd w (.slice A p.length c) p) (hok : StepsOk p) (hT : ShowTabs w) :
    Calls Tryz.prog 7 #[.slice A p.length c] w fun e w' => e = .returned (.bool true) ∧ Below w.heap.size w w' := by
  have HW := Lib.hid (works_any w w ⟨Below.refl _ _, hT⟩)
  have HC := Lib.hid (fun (V : World) (hV : Below w.heap.size w V) => cut8_any p A c V (Rd.below hp hV) fun s hs => (hok s hs).1)
  have HS := Lib.hid (fun (V : World) (hV : LW w V) (A' : Option Addr) (c' : Nat) (h : StepRd V (.slice A' (cutP p).length c') (cutP p)) => show_any (cutP p) V A' c' h (cutP_ok hok) hV.t)
  have HP := Lib.hid (fun (V : World) (hV : LW w V) => parse_any (showM (cutP p)).1 V (show_len hok) hV.nam)
  have HPS := Lib.hid (fun (h : (showM (cutP p)).2 = 0) => parse_show (cutP p) h)
  have HER := Lib.hid (fun (h : (showM (cutP p)).2 ≠ 0) => show_err (cutP p) h)
  clear hp hok hT
  generalize p.length = n at *
  generalize cutP p = q at *
  clear p
  go_enter Tryz.func7, Tryz.ntmps7
  go_wp2_with fail
  refine HW.out.mono ?_
  rintro e w1 ⟨rfl, h1⟩
  have H1 := Lib.hid h1
  clear h1 HW
  go_wp2_with fail
  refine (HC.out w1 H1.out.b).mono ?_
  rintro e w2 ⟨⟨v, rfl, hS⟩, h2⟩
  obtain ⟨A2, c2, rfl⟩ := owns_ptr hS
  have H2 := Lib.hid (H1.out.next h2)
  have HQ := Lib.hid hS
  clear h2 H1 HC hS
  have HSH := Lib.hid (HS.out w2 H2.out A2 c2 HQ.out.rd)
  have hql : Hid (q.length = q.length) := Lib.hid rfl
  obtain ⟨⟨t, er⟩, hm⟩ : ∃ x, showM q = x := ⟨_, rfl⟩
  rw [hm] at HSH HP HPS HER
  unfold strV at HSH HP
  dsimp only at HSH HP HPS HER
  clear HS hm
  go_wp2_with fail
  refine HSH.out.mono ?_
  rintro e w3 ⟨rfl, h3⟩
  have HQ3 := Lib.hid (HQ.out.below h3)
  have H3 := Lib.hid (H2.out.next h3)
  clear h3 H2 HSH HQ
  by_cases he : er = 0
  · subst he
    have HPP := Lib.hid (HP.out w3 H3.out)
    rw [HPS.out rfl] at HPP
    unfold ParsePost at HPP
    dsimp only at HPP
    clear HPS HER HP
    go_wp2_with fail
    refine HPP.out.mono ?_
    rintro e w4 ⟨⟨A4, c4, rfl, hS4⟩, h4⟩
    have HE := Lib.hid (eqsteps_any q q A2 A4 c2 c4 w4 (HQ3.out.below h4).rd hS4.rd)
    rw [decide_eq_true (rfl : q = q)] at HE
    have H4 := Lib.hid (H3.out.next h4)
    clear h4 H3 HPP hS4 HQ3
    generalize q.length = m at *
    go_wp2_with fail
    refine HE.out.mono ?_
    rintro e w5 ⟨rfl, h5⟩
    have H5 := Lib.hid (H4.out.next h5)
    clear h5 H4
    go_wp2_with fail
    go_ret
    exact ⟨rfl, H5.out.b⟩
  · have ht := HER.out he
    subst ht
    have he2 : (er == 0) = false := by simpa using he
    clear HPS HER HP he
    go_wp2_with fail
    go_ret
    exact ⟨rfl, H3.out.b⟩
end
end
section
open Go.ChangeShapes Go.WideShapes Go.ChangeAt Go.RowKit
theorem own : ownKnob Tryz.prog.godebug = none := by kernel_rfl
theorem laidOut : laidOutB Tryz.prog = true := by kernel_rfl
/-- The variables that the rows list. -/
def lxLaid : List (String × DataW Unit) := [("math/bits.deBruijn32tab", Rows.laid_math_bits_deBruijn32tab), ("math/bits.deBruijn64tab", Rows.laid_math_bits_deBruijn64tab), ("internal/strconv.uint64pow10", Rows.laid_internal_strconv_uint64pow10), ("unicode/utf8.acceptRanges", Rows.laid_unicode_utf8_acceptRanges), ("strconv.ErrRange", Rows.laid_strconv_ErrRange), ("strconv.ErrSyntax", Rows.laid_strconv_ErrSyntax), ("unicode/utf8.first", Rows.laid_unicode_utf8_first)]
theorem lx_u8 : U8Extra Tryz.prog Tryz.lays260_ren := ⟨by kernel_rfl, by kernel_rfl, by kernel_rfl, by kernel_rfl, by kernel_rfl, by kernel_rfl, by kernel_rfl⟩
theorem lx_accept : (Rows.laid_unicode_utf8_acceptRanges : DataW Unit) = Lib.acceptData := by kernel_rfl
theorem lx_first : Rows.laid_unicode_utf8_first = Lib.firstData := Pinned.utf8First_eq
theorem tabs_of_laid {W : World} (h : laidMetH Tryz.prog lxLaid W) : ShowTabs W := by
  have hL : laidMet Tryz.prog lxLaid W := by rwa [MakeChecks.laidMetH_plain _ _ _ (by kernel_rfl)] at h
  have h3 := Lib.laidMet.reads hL (n := "unicode/utf8.first") (d := Rows.laid_unicode_utf8_first) (by simp [lxLaid])
  have h4 := Lib.laidMet.reads hL (n := "unicode/utf8.acceptRanges") (d := Rows.laid_unicode_utf8_acceptRanges) (by simp [lxLaid])
  rw [lx_first] at h3
  rw [lx_accept] at h4
  have hT : Tabs W := utf8Tabs_of_reads Tryz.lays260 lx_u8 h3 h4
  have ht3 := hL.tail.tail
  have htab : Lib.TabIs Tryz.prog W "internal/strconv.uint64pow10" .u64 Lib.pow10Tab := by
    have e0 : (Rows.laid_internal_strconv_uint64pow10 : DataW Unit) = Lib.tabData .u64 Lib.pow10Tab := by kernel_rfl
    rw [e0] at ht3
    exact Lib.tabIs_of_head (t := 176) (e := 34) (n := 20) (show Tryz.prog.globalNamed "internal/strconv.uint64pow10" = some 5 by kernel_rfl) (by kernel_rfl) (by kernel_rfl) Tryz.underlying34 (by kernel_rfl) (by kernel_rfl) ht3
  exact ⟨hT, (cell_spot (hT.1 0 (by decide))).2, (cell_spot (hT.2 0 (by decide)).1).2, htab⟩
theorem lx_world (os : Os) (args : Array Value) : laidMetH Tryz.prog lxLaid ((World.laidAll Tryz.prog os lxLaid).forCall (fun _ _ => 0) ⟨#[], args, []⟩).memory := by
  rw [MakeChecks.laidMetH_plain _ _ _ (by kernel_rfl)]
  exact laidMet_laidAll _ (by kernel_rfl) (by kernel_rfl)
section
variable {H : Type} {enc : TypeId × Value → H} {w : World} {base : Nat} {held : Bool}
set_option maxRecDepth 100000 in
/-- A path that came in. -/
theorem steps_row {a : Option Addr} {len cap : Nat} {d : DataW H} {p : List MemPlace} (h : DataW.Trod enc Tryz.prog w base (fun _ => true) held 22 (.slice a len cap) d p) :
    ∃ q : List PS, q.length = len ∧ StepRd w (.slice a len cap) q ∧ StepsOk q ∧ len ≤ cap := by
  obtain ⟨fuel, hf⟩ := h
  rcases DataW.trod_slice Tryz.underlying22 hf with ⟨hcs, _⟩ | ⟨x, l, c, elems, rest, n, _, hcs, _, _, hl, hm, hlen, hel, _⟩
  · simp [Value.cells] at hcs
    obtain ⟨rfl, rfl, rfl⟩ := hcs
    exact ⟨[], rfl, rd_nil w, (by intro s hs; cases hs), Nat.le_refl _⟩
  · simp [Value.cells] at hcs
    obtain ⟨rfl, rfl, rfl⟩ := hcs
    have hb : len ≤ 9223372036854775807 := by unfold maxLen at hm; omega
    have each : ∀ i, i < len → ∃ s : PS, w.cell? ((x.add (i * 3)).add 0) = some (strV s.1) ∧ w.cell? ((x.add (i * 3)).add 1) = some (.int .i64 s.2.1) ∧ w.cell? ((x.add (i * 3)).add 2) = some (.bool s.2.2) ∧ s.1.length ≤ 9223372036854775807 ∧ -9223372036854775808 ≤ s.2.1 ∧ s.2.1 ≤ 9223372036854775807 := by
      intro i hi
      have he := hel i (by omega)
      have hy : elems[i]? = some (elems[i]'(by omega)) := List.getElem?_eq_getElem (by omega)
      have hco : Tryz.prog.cellsOf 50 = 3 := by kernel_rfl
      have hc1 : Tryz.prog.cellsOf 9 = 1 := by kernel_rfl
      have hc2 : Tryz.prog.cellsOf 3 = 1 := by kernel_rfl
      have hc3 : Tryz.prog.cellsOf 4 = 1 := by kernel_rfl
      rw [hy, hco] at he
      obtain ⟨cs, hcs2, ht⟩ := Option.bind_eq_some_iff.1 he
      obtain ⟨_, hlen2, hcell⟩ := World.cells?_some hcs2
      obtain ⟨ys, m, _, _, _, hyl, hf2⟩ := DataW.trod_struct Tryz.underlying50 ht
      have hys : ys.length = 3 := hyl
      obtain ⟨c0, c1, c2, rfl⟩ : ∃ c0 c1 c2, cs = [c0, c1, c2] := by
        clear hf2 ht he hcell hcs2
        match cs, hlen2 with
        | [c0, c1, c2], _ => exact ⟨c0, c1, c2, rfl⟩
      have g0 : DataW.trod enc Tryz.prog w base (fun _ => true) held m 9 (([c0, c1, c2].drop 0).take (Tryz.prog.cellsOf 9)) = ys[0]? := hf2 0 _ rfl
      have g1 : DataW.trod enc Tryz.prog w base (fun _ => true) held m 3 (([c0, c1, c2].drop 1).take (Tryz.prog.cellsOf 3)) = ys[1]? := hf2 1 _ rfl
      have g2 : DataW.trod enc Tryz.prog w base (fun _ => true) held m 4 (([c0, c1, c2].drop 2).take (Tryz.prog.cellsOf 4)) = ys[2]? := hf2 2 _ rfl
      have y0 : ys[0]? = some (ys[0]'(by omega)) := List.getElem?_eq_getElem (by omega)
      have y1 : ys[1]? = some (ys[1]'(by omega)) := List.getElem?_eq_getElem (by omega)
      have y2 : ys[2]? = some (ys[2]'(by omega)) := List.getElem?_eq_getElem (by omega)
      rw [y0] at g0
      rw [y1] at g1
      rw [y2] at g2
      simp only [hc1, hc2, hc3, List.drop_succ_cons, List.drop_zero, List.take_succ_cons, List.take_zero] at g0 g1 g2
      obtain ⟨s, b0, -, w0⟩ := DataW.trod_string Tryz.underlying9 g0
      obtain ⟨n1, b1, -, w1⟩ := DataW.trod_int Tryz.underlying3 g1
      obtain ⟨bb, b2, -⟩ := DataW.trod_bool Tryz.underlying4 g2
      simp only [List.cons.injEq, and_true] at b0 b1 b2
      subst b0 b1 b2
      have q0 := hcell 0 (by omega)
      have q1 := hcell 1 (by omega)
      have q2 := hcell 2 (by omega)
      exact ⟨(s.data.toList, n1, bb), q0, q1, q2, str_len w0, (wf64 w1).1, (wf64 w1).2⟩
    obtain ⟨f, hfn⟩ : ∃ f : Nat → PS, ∀ i, i < len → w.cell? ((x.add (i * 3)).add 0) = some (strV (f i).1) ∧ w.cell? ((x.add (i * 3)).add 1) = some (.int .i64 (f i).2.1) ∧ w.cell? ((x.add (i * 3)).add 2) = some (.bool (f i).2.2) ∧ (f i).1.length ≤ 9223372036854775807 ∧ -9223372036854775808 ≤ (f i).2.1 ∧ (f i).2.1 ≤ 9223372036854775807 :=
      ⟨fun i => if hi : i < len then (each i hi).choose else ([], 0, false), fun i hi => by simp only [hi, dif_pos]; exact (each i hi).choose_spec⟩
    have hql : ((List.range len).map f).length = len := by simp
    have hqg : ∀ i (hi : i < len), ((List.range len).map f)[i]'(by omega) = f i := fun i hi => by simp
    refine ⟨(List.range len).map f, hql, ⟨some x, cap, by rw [hql], by rw [hql]; exact hb, steps_len _, (fun h => by cases h), fun h0 => ?_⟩, ?_, hl⟩
    · rw [hql] at h0
      have hc0 := (hfn 0 h0).1
      have ea : (x.add (0 * 3)).add 0 = x := by simp [Addr.add]
      rw [ea] at hc0
      obtain ⟨e1, e2⟩ := cell_spot hc0
      refine ⟨x.block, x.off, by rw [← e1], e2, fun j hj => ?_⟩
      rw [hql] at hj
      obtain ⟨i, k, rfl, hk⟩ : ∃ i k, j = i * 3 + k ∧ k < 3 := ⟨j / 3, j % 3, by omega, Nat.mod_lt _ (by decide)⟩
      have hi : i < len := by omega
      obtain ⟨u0, u1, u2, -⟩ := hfn i hi
      rw [steps_at _ i k (by omega) hk, hqg i hi]
      have ad : ∀ k, (x.add (i * 3)).add k = ⟨x.block, x.off + (i * 3 + k), none⟩ := by
        intro k
        rw [e1, add_off, add_off, Nat.add_assoc]
      rw [ad] at u0 u1 u2
      obtain rfl | rfl | rfl : k = 0 ∨ k = 1 ∨ k = 2 := by omega
      · exact u0
      · exact u1
      · exact u2
    · intro s hs
      obtain ⟨i, hi, rfl⟩ := List.mem_map.1 hs
      exact (hfn i (by simpa using hi)).2.2.2
end
end
end Go.Proofs.YtlblddeemkefkaaGreatDoor
