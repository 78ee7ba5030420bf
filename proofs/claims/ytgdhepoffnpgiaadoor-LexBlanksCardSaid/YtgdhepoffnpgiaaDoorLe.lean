/- The walk of utf.reader's plain. -/
import Derived.Test.YtgdhepoffnpgiaaDoorLd
import Derived.Lib.SlBytesRow
import Derived.Deep.RegionLaw
import Derived.Handy
namespace Go.Proofs.YtgdhepoffnpgiaaDoor
set_option linter.unusedVariables false
set_option linter.unusedSimpArgs false
set_option linter.unusedSectionVars false
open Go.RowKit Go.Shelf
section
variable {B R : Nat} {w : World} {Q : UQ} {addr buf : Value}
theorem conv_row1 (c : UInt8) (g : Nat) (W : World) (hat : W.cell? ⟨g, 0, none⟩ = some (.int .u8 (c.toNat : Int))) : (convert 90 9 (.slice (some ⟨g, 0, none⟩) 1 1)).run Tryd.prog W = .ok (.string ⟨#[c]⟩) W := by
  rw [run_convert_bytes_arg W 90 5 Tryd.underlying90 Tryd.underlying5 g 0 1 1 [(c.toNat : Int)] rfl (fun i hi => by
    have : i = 0 := by omega
    subst this
    rw [Nat.zero_add, hat]; rfl) 9 Tryd.underlying9]
  congr 2
  simp [strOfNums]
theorem ba_app (a b : List UInt8) : (⟨a.toArray⟩ : ByteArray) ++ ⟨b.toArray⟩ = ⟨(a ++ b).toArray⟩ := by
  apply ByteArray.ext
  simp
theorem slice_str (l : List UInt8) (n : Nat) (hn : n ≤ l.length) (W : World) : (Instr.slice 9 (.string ⟨l.toArray⟩) none (some (.int .i64 n)) none).run Tryd.prog W = .ok (.string ⟨(l.take n).toArray⟩) W := by
  have hs : (⟨l.toArray⟩ : ByteArray).size = l.length := by simp [ByteArray.size]
  rw [run_slice_string_h (ht := Tryd.underlying9) (h0 := by omega) (h2 := by rw [hs]; omega)]
  congr 2
  apply ByteArray.ext
  simp [ByteArray.data_extract]
/-- A reader's method: an errno, or the reader turned. -/
def UPost (B R : Nat) (w : World) (r : QR) (e : Ending) (w' : World) : Prop :=
  (∀ er, r = .error er → e = .returned (.int .i64 er)) ∧ (∀ Q', r = .ok Q' → e = .returned (.int .i64 0) ∧ ∃ addr' buf', UOk B w' R Q' addr' buf') ∧ Below B w w'
theorem UPost.err {er : Int} {w' : World} (hb : Below B w w') : UPost B R w (.error er) (.returned (.int .i64 er)) w' := ⟨fun _ h => by cases h; rfl, fun _ h => (by cases h), hb⟩
theorem UPost.ok {w' : World} (h : UOk B w' R Q addr buf) (hb : Below B w w') : UPost B R w (.ok Q) (.returned (.int .i64 0)) w' := ⟨fun _ h => (by cases h), fun _ e => by cases e; exact ⟨rfl, _, _, h⟩, hb⟩
theorem wp_named {P : Program} {c : Code} {Q : Exit → Act → World → Prop} {a : Act} {W : World} (R : World → Prop) (hR : R W) (h : ∀ wn, R wn → c.wp P Q a wn) : c.wp P Q a W := h W hR
set_option maxHeartbeats 4000000 in
set_option maxRecDepth 100000 in
theorem plain_any (c : UInt8) (hru : Q.ru.length ≤ 3) (hl : Q.out.length ≤ 1099511627776) (h : UOk B w R Q addr buf) (hT : Tabs w) (h1B : 1 < B) (h2B : 2 < B) :
    Calls Tryd.prog 111 #[.pointer (some ⟨R, 0, none⟩), .int .u8 c.toNat] w (UPost B R w (plainQ Q c)) := by
  have hBR := h.hB
  have hRw := h.lt
  obtain ⟨c0, c1, c2, c3, c4, c5, c6, cf⟩ := cellR h.row
  have f3 := cf 3
  clear cf
  have hcv := fun (W : World) (h : W.cell? ⟨w.heap.size, 0, none⟩ = some (.int .u8 c.toNat)) => conv_row1 c w.heap.size W h
  unfold strV at c3
  have hmx : ¬ (9223372036854775807 < Q.ru.length + 1) := by omega
  have Hh := Lib.hid h
  have HT := Lib.hid hT
  clear h hT
  go_enter Tryd.func111, Tryd.ntmps111
  go_upto_region 1 with fail
  go_region
  rw [show (⟨Q.ru.toArray⟩ : ByteArray) ++ ⟨#[c]⟩ = ⟨(Q.ru ++ [c]).toArray⟩ from ba_app Q.ru [c]]
  go_upto_region 2 with fail
  refine wp_named (fun wn => UOk B wn R { Q with ru := Q.ru ++ [c] } addr buf ∧ Below B w wn) ⟨?_, ?_⟩ ?_
  · exact ((Hh.out.to (Q' := { Q with ru := Q.ru ++ [c] }) (row_set 3 _ Hh.out.row) rfl (fun k _ hk => Below.heap_setCell _ _ _ _ (by simpa using fun e => hk e)) (by simp)).alloc _).drew
  · exact (((Below.refl B w).setCell (p := ⟨R, 3, none⟩) hBR _).alloc (by simp; omega) _).drew
  rintro wn ⟨hn, hbn⟩
  have hTn := HT.out.below hbn h1B h2B
  clear c0 c1 c2 c3 c4 c5 c6 f3 hcv hmx Hh HT
  have hRn := hn.lt
  have hzn : B ≤ wn.heap.size := by have := hbn.size; omega
  obtain ⟨c0, c1, c2, c3, c4, c5, c6, cf⟩ := cellR hn.row
  clear c0 c1 c2 c4 c5 c6 cf
  dsimp only at c3
  have hne : Q.ru ++ [c] ≠ [] := by simp
  have hln : (Q.ru ++ [c]).length ≤ 4 := by simp; omega
  generalize hL : Q.ru ++ [c] = L at *
  cases hU : isU L with
  | true =>
    have hP : plainQ Q c = .ok { Q with out := Q.out ++ L.take (decL L).2, ru := [] } := by unfold plainQ; rw [hL, if_pos hU]
    obtain ⟨m, hm⟩ : ∃ m, (decL L).2 = m := ⟨_, rfl⟩
    obtain ⟨rr, hrr⟩ : ∃ m, (decL L).1 = m := ⟨_, rfl⟩
    have hmL : m ≤ L.length := by
      have := (isU_iff hne).1 hU
      rw [decL_done hne this] at hm
      have := this.2.1
      omega
    have HN := next_yes hTn hU
    rw [hm, hrr] at HN
    rw [hm] at hP
    have HP := Lib.hid hP
    clear hP
    have HN2 := Lib.hid HN
    clear HN hm hrr hL
    have hsl := fun W => slice_str L m hmL W
    go_wp2_with fail
    refine HN2.out.mono ?_
    rintro e w1 ⟨rfl, hb1⟩
    have h1 := hn.below hb1 (Nat.le_refl _)
    have hb01 := hbn.trans (hb1.mono (by omega))
    have hR1 := h1.lt
    obtain ⟨c0, c1, c2, c3', c4, c5, c6, cf⟩ := cellR h1.row
    clear c0 c1 c2 c4 c5 c6 cf c3
    dsimp only at c3'
    unfold strV at c3'
    have Hn := Lib.hid h1
    have HB := Lib.hid hb01
    have HW := writeS_any (Q := { Q with ru := L }) (L.take m) (by simp; omega) hl h1.drew
    unfold strV at HW
    have HW2 := Lib.hid HW
    clear hn hbn hTn HN2 h1 hb1 hb01 HW
    go_upto_region 4 with fail
    go_region_with (go_at_call 65; refine HW2.out.mono ?_; rintro e w2 ⟨rfl, ⟨buf', h2⟩, hb2⟩)
    obtain ⟨d0, d1, d2, d3, d4, d5, d6, df⟩ := cellR h2.row
    have f3 := df 3
    have hz2 := hb2.size
    have hbb := HB.out.drew.trans hb2
    clear d0 d1 d2 d4 d5 d6 df
    go_wp2_with fail
    go_returns
    rw [HP.out]
    exact UPost.ok (Q := { Q with out := Q.out ++ L.take m, ru := [] }) (h2.to (row_set 3 _ h2.row) rfl (fun k _ hk => Below.heap_setCell _ _ _ _ (by simpa using fun e => hk e)) (by simp)) (hbb.setCell (p := ⟨R, 3, none⟩) hBR _)
  | false =>
    have HN := Lib.hid (next_no hTn hU)
    have HF := Lib.hid (fun (W : World) (hb : Below wn.heap.size wn W) => full_any hne W (hTn.below hb (by omega) (by omega)))
    unfold strV at HF HN
    cases hF : fullU L with
    | true =>
      have HP := Lib.hid (show plainQ Q c = .error 40 by unfold plainQ; rw [hL, if_neg (by simp [hU]), if_pos hF])
      rw [hF] at HF
      clear hL hF
      go_wp2_with fail
      refine HN.out.mono ?_
      rintro e w1 ⟨rfl, hb1⟩
      obtain ⟨c0, c1, c2, c3', c4, c5, c6, cf⟩ := cellR (hn.below hb1 (Nat.le_refl _)).row
      clear c0 c1 c2 c4 c5 c6 cf c3
      dsimp only at c3'
      unfold strV at c3'
      go_wp2_with fail
      refine (HF.out _ hb1).mono ?_
      rintro e w2 ⟨rfl, hb2⟩
      go_wp2_with fail
      go_returns
      rw [HP.out]
      exact UPost.err (er := 40) ((hbn.trans (hb1.mono hzn)).trans (hb2.mono (by have := hb1.size; omega)))
    | false =>
      have HP := Lib.hid (show plainQ Q c = .ok { Q with ru := L } by unfold plainQ; rw [hL, if_neg (by simp [hU]), if_neg (by simp [hF])])
      rw [hF] at HF
      clear hL hF
      go_wp2_with fail
      refine HN.out.mono ?_
      rintro e w1 ⟨rfl, hb1⟩
      have h1 := hn.below hb1 (Nat.le_refl _)
      obtain ⟨c0, c1, c2, c3', c4, c5, c6, cf⟩ := cellR h1.row
      clear c0 c1 c2 c4 c5 c6 cf c3
      dsimp only at c3'
      unfold strV at c3'
      have Hn := Lib.hid h1
      clear h1
      go_wp2_with fail
      refine (HF.out _ hb1).mono ?_
      rintro e w2 ⟨rfl, hb2⟩
      go_wp2_with fail
      go_returns
      rw [HP.out]
      exact UPost.ok (Q := { Q with ru := L }) (Hn.out.below hb2 (Nat.le_refl _)) ((hbn.trans (hb1.mono hzn)).trans (hb2.mono (by have := hb1.size; omega)))
end
end Go.Proofs.YtgdhepoffnpgiaaDoor
