/- The walk of accordionlaw08.PathShows. -/
import Derived.Test.YtlblddeemkefkaaGreatDoorSm
import Derived.Test.YtlblddeemkefkaaGreatDoorRo
namespace Go.Proofs.YtlblddeemkefkaaGreatDoor
set_option linter.unusedVariables false
set_option linter.unusedSimpArgs false
section
open Go.RowKit Go.Shelf
theorem cutP_small (p : List PS) (h : StepsOk p) : ∀ s ∈ cutP p, s.1.length ≤ 600 ∧ -9223372036854775808 ≤ s.2.1 ∧ s.2.1 ≤ 9223372036854775807 := by
  intro s hs
  unfold cutP at hs
  obtain ⟨x, hx, rfl⟩ := List.mem_map.1 hs
  have := h x (List.mem_of_mem_take hx)
  refine ⟨?_, this.2⟩
  show (x.1.take 40).length ≤ 600
  rw [List.length_take]
  omega
set_option maxHeartbeats 8000000 in
set_option maxRecDepth 100000 in
theorem pathShows_any (P0 : List PS) (Aq : Option Addr) (cq : Nat) (w : World) (hp : StepRd w (.slice Aq P0.length cq) P0) (hsp : StepsOk P0) (hT : ShowTabs w) :
    Calls Tryz.prog 3 #[.slice Aq P0.length cq] w fun e w' => e = .returned (.bool true) ∧ Below w.heap.size w w' := by
  have HCP := Lib.hid (fun (V : World) (hV : Below w.heap.size w V) => cut8_any P0 Aq cq V (Rd.below hp hV) fun s hs => (hsp s hs).1)
  have hk := cutP_small P0 hsp
  have hpl := cutP_len P0
  generalize cutP P0 = p at *
  have HK := Lib.hid hk
  have HL := Lib.hid (show LW w w from ⟨Below.refl _ _, hT⟩)
  have HB0 := Lib.hid (Below.refl w.heap.size w)
  clear hp hsp hk hT
  generalize P0.length = nq at *
  obtain ⟨⟨tx, er⟩, hs⟩ : ∃ x, showM p = x := ⟨_, rfl⟩
  have HS := Lib.hid hs
  clear hs
  go_enter Tryz.func3, Tryz.ntmps3
  go_wp2_with fail
  refine (HCP.out w HB0.out).mono ?_
  rintro e w1 ⟨⟨v3, rfl, hs3⟩, hb1⟩
  replace HL := Lib.hid (HL.out.next hb1)
  obtain ⟨A3, c3, rfl⟩ := owns_ptr hs3
  have hr3 : StepRd w1 (.slice A3 p.length c3) p := Rd.of_owns hs3
  have HR3 := Lib.hid hr3
  have HSA : Calls Tryz.prog 14 #[.slice A3 p.length c3] w1 fun e w' => e = .returned (.tuple #[strV tx, .int .i64 er]) ∧ Below w1.heap.size w1 w' := by
    have h := show_any p w1 A3 c3 hr3 HK.out HL.out.t
    rw [HS.out] at h
    exact h
  have HSB : ∀ V, Below w1.heap.size w1 V → Calls Tryz.prog 15 #[.slice A3 p.length c3] V fun e w' => e = .returned (.tuple #[strV tx, .int .i64 er]) ∧ Below V.heap.size V w' := fun V hV => by
    have h := rshow_any p V A3 c3 (Rd.below HR3.out hV) HK.out
    rw [HS.out] at h
    exact h
  replace HSA := Lib.hid HSA
  replace HSB := Lib.hid HSB
  unfold strV at HSA HSB
  clear hs3 hb1 hr3 HB0
  go_wp2_with fail
  refine HSA.out.mono ?_
  rintro e w2 ⟨rfl, hb2⟩
  replace HL := Lib.hid (HL.out.next hb2)
  have HB2 := Lib.hid hb2
  clear hb2 HSA
  go_wp2_with fail
  refine (HSB.out w2 HB2.out).mono ?_
  rintro e w3 ⟨rfl, hb3⟩
  replace HL := Lib.hid (HL.out.next hb3)
  replace HB2 := Lib.hid (HB2.out.trans (hb3.mono HB2.out.size))
  clear hb3 HSB
  have e1 : (tx == tx) = true := beq_self_eq_true _
  have e2 : (er == er) = true := beq_self_eq_true _
  have HBF := Lib.hid HL.out.b
  go_wp2_with fail
  refine (HCP.out w3 HBF.out).mono ?_
  rintro e w4 ⟨⟨v4, rfl, hs4⟩, hb4⟩
  replace HL := Lib.hid (HL.out.next hb4)
  obtain ⟨A4, c4, rfl⟩ := owns_ptr hs4
  have HE : Calls Tryz.prog 16 #[.slice A3 p.length c3, .slice A4 p.length c4] w4 fun e w' => e = .returned (.bool true) ∧ Below w4.heap.size w4 w' := by
    have h := eqsteps_any p p A3 A4 c3 c4 w4 (Rd.below HR3.out (HB2.out.trans (hb4.mono HB2.out.size))) (Rd.of_owns hs4)
    rwa [decide_eq_true rfl] at h
  replace HE := Lib.hid HE
  clear hs4 hb4 HCP
  go_wp2_with fail
  refine HE.out.mono ?_
  rintro e w5 ⟨rfl, hb5⟩
  replace HL := Lib.hid (HL.out.next hb5)
  clear hb5 HE
  have HW := Lib.hid (works_any w w5 HL.out)
  go_wp2_with fail
  refine HW.out.mono ?_
  rintro e w6 ⟨rfl, h6⟩
  replace HL := Lib.hid h6
  clear h6 HW
  go_wp2_with fail
  go_ret
  exact ⟨rfl, HL.out.b⟩
end
end Go.Proofs.YtlblddeemkefkaaGreatDoor
