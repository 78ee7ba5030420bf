/- The walk of accordionlaw08.PathReads. -/
import Derived.Test.YtlblddeemkefkaaGreatDoorSm
import Derived.Test.YtlblddeemkefkaaGreatDoorRi
namespace Go.Proofs.YtlblddeemkefkaaGreatDoor
set_option linter.unusedVariables false
set_option linter.unusedSimpArgs false
section
open Go.RowKit Go.Shelf
set_option maxHeartbeats 8000000 in
set_option maxRecDepth 100000 in
theorem pathReads_any (s : List UInt8) (w : World) (hs : s.length ≤ 9223372036854775807) (hT : ShowTabs w) :
    Calls Tryz.prog 4 #[strV s] w fun e w' => e = .returned (.bool true) ∧ Below w.heap.size w w' := by
  have HSH := Lib.hid (short_any s 600 hs (by omega) w)
  have hlen : (s.take 600).length ≤ 600 := by rw [List.length_take]; omega
  generalize s.take 600 = l at *
  obtain ⟨⟨p, n, e⟩, hp⟩ : ∃ x, parseM l = x := ⟨_, rfl⟩
  have HPA : Calls Tryz.prog 19 #[.string ⟨l.toArray⟩] w fun x w' => (∃ A c, x = .returned (.tuple #[.slice A p.length c, .int .i64 n, .int .i64 e]) ∧ SRow w.heap.size w' (.slice A p.length c) p) ∧ Below w.heap.size w w' := by
    have h := parse_any l w (by omega) ⟨hT.1, hT.2.1, hT.2.2.1⟩
    rw [hp] at h
    exact h
  have HPB : ∀ V, Calls Tryz.prog 20 #[.string ⟨l.toArray⟩] V fun x w' => (∃ A c, x = .returned (.tuple #[.slice A p.length c, .int .i64 n, .int .i64 e]) ∧ SRow V.heap.size w' (.slice A p.length c) p) ∧ Below V.heap.size V w' := fun V => by
    have h := rparse_any l V (by omega)
    rw [hp] at h
    exact h
  replace HPA := Lib.hid HPA
  replace HPB := Lib.hid HPB
  have HL := Lib.hid (show LW w w from ⟨Below.refl _ _, hT⟩)
  clear hs hT hp
  unfold strV at HSH ⊢
  go_enter Tryz.func4, Tryz.ntmps4
  go_wp2_with (go_at_call 18; refine HSH.out.mono ?_; rintro e w1 ⟨rfl, rfl⟩)
  refine HPA.out.mono ?_
  rintro x w1 ⟨⟨A1, c1, rfl, hS1⟩, hb1⟩
  replace HL := Lib.hid (HL.out.next hb1)
  have HS1 := Lib.hid (show StepRd w1 (.slice A1 p.length c1) p from hS1.rd)
  clear hS1 hb1 HPA
  go_wp2_with fail
  refine (HPB.out w1).mono ?_
  rintro x w2 ⟨⟨A2, c2, rfl, hS2⟩, hb2⟩
  replace HL := Lib.hid (HL.out.next hb2)
  have HE : Calls Tryz.prog 16 #[.slice A1 p.length c1, .slice A2 p.length c2] w2 fun e w' => e = .returned (.bool true) ∧ Below w2.heap.size w2 w' := by
    have h := eqsteps_any p p A1 A2 c1 c2 w2 (Rd.below HS1.out hb2) hS2.rd
    rwa [decide_eq_true rfl] at h
  replace HE := Lib.hid HE
  have e1 : (n == n) = true := beq_self_eq_true _
  have e2 : (e == e) = true := beq_self_eq_true _
  clear hS2 hb2 HPB HS1
  generalize p.length = m at *
  go_wp2_with fail
  refine HE.out.mono ?_
  rintro x w3 ⟨rfl, hb3⟩
  replace HL := Lib.hid (HL.out.next hb3)
  clear hb3 HE
  have HW := Lib.hid (works_any w w3 HL.out)
  go_wp2_with fail
  refine HW.out.mono ?_
  rintro x w5 ⟨rfl, h5⟩
  replace HL := Lib.hid h5
  clear h5 HW
  go_wp2_with fail
  go_ret
  exact ⟨rfl, HL.out.b⟩
end
end Go.Proofs.YtlblddeemkefkaaGreatDoor
