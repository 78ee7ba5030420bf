/- The walks of utf.Next, utf8.FullRuneInString and of utf.reader's want, plain, begin. -/
import Derived.Test.YtccmhhmdenfecaaGreatDoorLb
import Derived.Test.YtccmhhmdenfecaaGreatDoorLu
namespace Go.Proofs.YtccmhhmdenfecaaGreatDoor
set_option linter.unusedVariables false
set_option linter.unusedSimpArgs false
set_option linter.unusedSectionVars false
open Go.RowKit Go.Shelf
def Tabs (w : World) : Prop := Lib.Utf8Tabs 1 2 w
theorem Tabs.below {w w' : World} {B : Nat} (h : Tabs w) (hb : Below B w w') (h1 : 1 < B) (h2 : 2 < B) : Tabs w' :=
  ⟨fun c hc => (hb.cell (p := ⟨1, c, none⟩) h1).trans (h.1 c hc), fun i hi => ⟨(hb.cell (p := ⟨2, 2 * i, none⟩) h2).trans (h.2 i hi).1, (hb.cell (p := ⟨2, 2 * i + 1, none⟩) h2).trans (h.2 i hi).2⟩⟩
theorem get_bat (l : List UInt8) (i : Nat) : ((⟨l.toArray⟩ : ByteArray).get! i).toNat = bat l i := by
  unfold bat ByteArray.get!
  simp [List.getD_eq_getElem?_getD]
  rfl
theorem decGo (l : List UInt8) : Lib.decodeGo ⟨l.toArray⟩ = decL l := by
  unfold Lib.decodeGo decL
  have hs : (⟨l.toArray⟩ : ByteArray).size = l.length := by simp [ByteArray.size]
  by_cases h : l = []
  · subst h; rfl
  · have hl : l.length ≠ 0 := fun e => h (List.eq_nil_of_length_eq_zero e)
    rw [hs, if_neg hl, if_neg h, Lib.decode_at, hs, get_bat, get_bat, get_bat, get_bat]
    rfl
theorem next_yes {l : List UInt8} {w : World} (hT : Tabs w) (hU : isU l = true) : Calls Tryz.prog 172 #[strV l] w fun e w' => e = .returned (.tuple #[.int .i32 (decL l).1, .int .i64 (decL l).2, .bool true]) ∧ Below w.heap.size w w' := by
  have HD := Tryz.utf8_DecodeRuneInString ⟨l.toArray⟩ w hT
  rw [decGo] at HD
  unfold isU at hU
  generalize decL l = r at *
  obtain ⟨a, b⟩ := r
  simp only [Bool.not_eq_true', Bool.and_eq_false_iff, decide_eq_false_iff_not] at hU
  dsimp only at HD
  unfold strV
  by_cases ha : a = 65533
  · have hb : ¬ (b : Int) < 2 := by omega
    subst ha
    go_enter Tryz.func172, Tryz.ntmps172
    go_wp2_with fail
    refine HD.mono ?_
    rintro e w1 ⟨rfl, hb1⟩
    go_wp2
    go_ret3
    exact ⟨rfl, hb1⟩
  · have ha' : ((a : Int) == 65533) = false := by simpa using fun h => ha (by omega)
    go_enter Tryz.func172, Tryz.ntmps172
    go_wp2_with fail
    refine HD.mono ?_
    rintro e w1 ⟨rfl, hb1⟩
    go_wp2
    go_ret3
    exact ⟨rfl, hb1⟩
theorem next_no {l : List UInt8} {w : World} (hT : Tabs w) (hU : isU l = false) : Calls Tryz.prog 172 #[strV l] w fun e w' => e = .returned (.tuple #[.int .i32 0, .int .i64 0, .bool false]) ∧ Below w.heap.size w w' := by
  have HD := Tryz.utf8_DecodeRuneInString ⟨l.toArray⟩ w hT
  rw [decGo] at HD
  unfold isU at hU
  generalize decL l = r at *
  obtain ⟨a, b⟩ := r
  simp only [Bool.not_eq_false', Bool.and_eq_true, decide_eq_true_eq] at hU
  dsimp only at HD
  obtain ⟨rfl, hb⟩ := hU
  have hb' : (b : Int) < 2 := by omega
  unfold strV
  go_enter Tryz.func172, Tryz.ntmps172
  go_wp2_with fail
  refine HD.mono ?_
  rintro e w1 ⟨rfl, hb1⟩
  go_wp2
  go_ret3
  exact ⟨rfl, hb1⟩
section
variable {B R : Nat} {w : World} {Q : UQ} {addr buf : Value}
set_option maxHeartbeats 1000000 in
set_option maxRecDepth 100000 in
theorem want_any (c must : UInt8) (next : Int) (h : UOk B w R Q addr buf) (r : QR) (hr : wantQ Q c must next = r) :
    Calls Tryz.prog 140 #[.pointer (some ⟨R, 0, none⟩), .int .u8 c.toNat, .int .u8 must.toNat, .int .i64 next] w fun e w' =>
      (∀ er, r = .error er → e = .returned (.int .i64 er)) ∧ (∀ Q', r = .ok Q' → e = .returned (.int .i64 0) ∧ ∃ addr' buf', UOk B w' R Q' addr' buf') ∧ Below B w w' := by
  have hBR := h.hB
  obtain ⟨c0, c1, c2, c3, c4, c5, c6, cf⟩ := cellR h.row
  have f0 := cf 0
  have f4 := cf 4
  have f5 := cf 5
  clear cf
  unfold wantQ at hr
  by_cases hc : c = must
  · subst hc
    rw [if_pos rfl] at hr
    subst hr
    have hne : ((c.toNat : Int) != c.toNat) = false := by simp
    go_enter Tryz.func140, Tryz.ntmps140
    go_wp2
    go_ret
    refine ⟨fun er he => (by cases he), fun Q' he => ⟨rfl, addr, buf, ?_⟩, ?_⟩
    · cases he
      refine h.to (row_set 5 _ (row_set 4 _ (row_set 0 _ h.row))) rfl (fun k _ hk => ?_) (by simp)
      rw [Below.heap_setCell _ _ _ _ (by simpa using fun e => hk e), Below.heap_setCell _ _ _ _ (by simpa using fun e => hk e), Below.heap_setCell _ _ _ _ (by simpa using fun e => hk e)]
    · exact (((Below.refl B w).setCell (p := ⟨R, 0, none⟩) hBR _).setCell (p := ⟨R, 4, none⟩) hBR _).setCell (p := ⟨R, 5, none⟩) hBR _
  · rw [if_neg hc] at hr
    subst hr
    have hne : ((c.toNat : Int) != must.toNat) = true := by
      simp only [bne_iff_ne, ne_eq, Int.natCast_inj]
      exact fun e => hc (UInt8.toNat_inj.1 e)
    go_enter Tryz.func140, Tryz.ntmps140
    go_wp2
    go_ret
    exact ⟨fun er he => (by cases he; rfl), fun Q' he => (by cases he), Below.refl _ _⟩
end
end Go.Proofs.YtccmhhmdenfecaaGreatDoor
