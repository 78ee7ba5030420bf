/- The walks of the reference's Zero and place. -/
import Derived.Test.YtlblddeemkefkaaGreatDoorKk
import Derived.Lib.IndexLaws
namespace Go.Proofs.YtlblddeemkefkaaGreatDoor
set_option linter.unusedVariables false
set_option linter.unusedSimpArgs false
open Go.RowKit Go.Shelf
theorem key_zero {l : List UInt8} {k : Nat} (hk : k < l.length) (h : l.getD k 0 = 0) : keyE l ≠ 0 := by
  unfold keyE
  by_cases h0 : 0 ≤ Lib.indexByte l 0
  · rw [if_pos h0]; decide
  · exfalso
    have h1 := Lib.indexByte_ge l 0
    refine Lib.indexByte_none (l := l) (c := 0) (by omega) k ?_
    rw [List.getD_eq_getElem?_getD, List.getElem?_eq_getElem hk] at h
    rw [List.getElem?_eq_getElem hk]
    exact congrArg some h
theorem key_none {l : List UInt8} (h : ∀ j, j < l.length → l.getD j 0 ≠ 0) : keyE l = 0 := by
  unfold keyE
  rw [if_neg]
  intro h0
  obtain ⟨o, ho⟩ : ∃ o : Nat, Lib.indexByte l 0 = o := ⟨(Lib.indexByte l 0).toNat, by omega⟩
  have h1 := (Lib.indexByte_some ho).1
  have hlt := (List.getElem?_eq_some_iff.1 h1).1
  refine h o hlt ?_
  rw [List.getD_eq_getElem?_getD, h1]
  rfl
set_option maxHeartbeats 8000000 in
set_option maxRecDepth 100000 in
theorem rzero_any (l : List UInt8) (w : World) (hl : l.length ≤ 1073741824) : Calls Tryz.prog 46 #[strV l] w fun e w' => e = .returned (.bool (decide (keyE l ≠ 0))) ∧ w' = w := by
  have hs : (⟨l.toArray⟩ : ByteArray).size = l.length := by simp [ByteArray.size]
  have HX := Lib.hid (str_idx l)
  have HT := Lib.hid (fun k => key_zero (l := l) (k := k))
  have HF := Lib.hid (key_none (l := l))
  obtain ⟨r, hr⟩ : ∃ r, r = decide (keyE l ≠ 0) := ⟨_, rfl⟩
  rw [← hr]
  have HR := Lib.hid hr
  obtain ⟨n, hn⟩ : ∃ n, n = l.length := ⟨_, rfl⟩
  have HN := Lib.hid hn
  rw [← hn] at hl hs
  clear hn hr
  unfold strV
  go_enter Tryz.func46, Tryz.ntmps46
  go_wp2_with fail
  go_loopw [3] (fun v wr => ∃ k : Nat, k ≤ n ∧ v = .int .i64 k ∧ Hid (∀ j, j < k → l.getD j 0 ≠ 0) ∧ wr = w) (fun v _ => n - (intOf v).toNat)
  case atStart => exact ⟨0, by omega, rfl, Lib.hid (fun j a => by omega), rfl⟩
  case round =>
    rename_i wr
    obtain ⟨k, hkn, rfl, hG, rfl⟩ := hrel
    by_cases h1 : k < n
    · have h1' : (k : Int) < (n : Int) := by omega
      have hx := HX.out k (by have := HN.out; omega)
      by_cases h0 : l.getD k 0 = 0
      · have m0 : ((l.getD k 0).toNat : Int) = 0 := by rw [h0]; rfl
        rw [m0] at hx
        have HFIN := Lib.hid (show r = true by rw [HR.out]; exact decide_eq_true (HT.out k (by have := HN.out; omega) h0))
        clear m0 h0
        go_wp2_with fail
        go_ret
        exact ⟨by rw [HFIN.out]; rfl, rfl⟩
      · have HG2 := Lib.hid (show ∀ j, j < k + 1 → l.getD j 0 ≠ 0 from fun j a => by
          by_cases e : j = k
          · rw [e]; exact h0
          · exact hG.out j (by omega))
        have m0 : (((l.getD k 0).toNat : Int) == 0) = false := by
          rw [beq_eq_false_iff_ne]
          intro e
          refine h0 ?_
          have e2 : (l.getD k 0).toNat = 0 := by omega
          exact UInt8.toNat_inj.1 e2
        generalize l.getD k 0 = c at *
        clear h0
        go_wp2_with fail
        go_roundw
        case rel => exact ⟨k + 1, by omega, by go_num, HG2, trivial⟩
        case measure => simp only [intOf]; omega
    · have h1' : ¬ (k : Int) < (n : Int) := by omega
      have HFIN := Lib.hid (show r = false by
        rw [HR.out]
        refine decide_eq_false (fun h => h (HF.out fun j hj => hG.out j (by have := HN.out; omega))))
      go_wp2_with fail
      go_ret
      exact ⟨by rw [HFIN.out]; rfl, rfl⟩
end Go.Proofs.YtlblddeemkefkaaGreatDoor
