/- The walk of utf.reader's plain. The walks of utf.reader's begin and escape. -/
import Derived.Test.YtccmhhmdenfecaaGreatDoorLd
import Derived.Lib.SlBytesRow
import Derived.Deep.RegionLaw
import Derived.Handy
namespace Go.Proofs.YtccmhhmdenfecaaGreatDoor
set_option linter.unusedVariables false
set_option linter.unusedSimpArgs false
set_option linter.unusedSectionVars false
section
open Go.RowKit Go.Shelf
section
variable {B R : Nat} {w : World} {Q : UQ} {addr buf : Value}
theorem conv_row1 (c : UInt8) (g : Nat) (W : World) (hat : W.cell? ⟨g, 0, none⟩ = some (.int .u8 (c.toNat : Int))) : (convert 76 9 (.slice (some ⟨g, 0, none⟩) 1 1)).run Tryz.prog W = .ok (.string ⟨#[c]⟩) W := by
  rw [run_convert_bytes_arg W 76 5 Tryz.underlying76 Tryz.underlying5 g 0 1 1 [(c.toNat : Int)] rfl (fun i hi => by
    have : i = 0 := by omega
    subst this
    rw [Nat.zero_add, hat]; rfl) 9 Tryz.underlying9]
  congr 2
  simp [strOfNums]
theorem ba_app (a b : List UInt8) : (⟨a.toArray⟩ : ByteArray) ++ ⟨b.toArray⟩ = ⟨(a ++ b).toArray⟩ := by
  apply ByteArray.ext
  simp
theorem slice_str (l : List UInt8) (n : Nat) (hn : n ≤ l.length) (W : World) : (Instr.slice 9 (.string ⟨l.toArray⟩) none (some (.int .i64 n)) none).run Tryz.prog W = .ok (.string ⟨(l.take n).toArray⟩) W := by
  have hs : (⟨l.toArray⟩ : ByteArray).size = l.length := by simp [ByteArray.size]
  rw [run_slice_string_h (ht := Tryz.underlying9) (h0 := by omega) (h2 := by rw [hs]; omega)]
  congr 2
  apply ByteArray.ext
  simp [ByteArray.data_extract]
/-- A reader's method: an errno, or the reader turned. -/
def UPost (B R : Nat) (w : World) (r : QR) (e : Ending) (w' : World) : Prop :=
  (∀ er, r = .error er → e = .returned (.int .i64 er)) ∧ (∀ Q', r = .ok Q' → e = .returned (.int .i64 0) ∧ ∃ addr' buf', UOk B w' R Q' addr' buf') ∧ Below B w w'
theorem UPost.err {er : Int} {w' : World} (hb : Below B w w') : UPost B R w (.error er) (.returned (.int .i64 er)) w' := ⟨fun _ h => by cases h; rfl, fun _ h => (by cases h), hb⟩
theorem UPost.ok {w' : World} (h : UOk B w' R Q addr buf) (hb : Below B w w') : UPost B R w (.ok Q) (.returned (.int .i64 0)) w' := ⟨fun _ h => (by cases h), fun _ e => by cases e; exact ⟨rfl, _, _, h⟩, hb⟩
set_option maxHeartbeats 4000000 in
set_option maxRecDepth 100000 in
theorem plain_any (c : UInt8) (hru : Q.ru.length ≤ 3) (hl : Q.out.length ≤ 1099511627776) (h : UOk B w R Q addr buf) (hT : Tabs w) (h1B : 1 < B) (h2B : 2 < B) :
    Calls Tryz.prog 162 #[.pointer (some ⟨R, 0, none⟩), .int .u8 c.toNat] w (UPost B R w (plainQ Q c)) := by
  have hBR := h.hB
  have hRw := h.lt
  obtain ⟨c0, c1, c2, c3, c4, c5, c6, cf⟩ := cellR h.row
  have f3 := cf 3
  clear cf
  have hcv := fun (W : World) (h : W.cell? ⟨w.heap.size, 0, none⟩ = some (.int .u8 c.toNat)) => conv_row1 c w.heap.size W h
  unfold strV at c3
  have hmx : ¬ (9223372036854775807 < Q.ru.length + 1) := by omega
  have Hh := Lib.hid h
  have HT := Lib.hid hT
  clear h hT
  go_enter Tryz.func162, Tryz.ntmps162
  go_upto_region 1 with fail
  go_region
  rw [show (⟨Q.ru.toArray⟩ : ByteArray) ++ ⟨#[c]⟩ = ⟨(Q.ru ++ [c]).toArray⟩ from ba_app Q.ru [c]]
  go_upto_region 2 with fail
  refine wp_named (fun wn => UOk B wn R { Q with ru := Q.ru ++ [c] } addr buf ∧ Below B w wn) ⟨?_, ?_⟩ ?_
  · exact ((Hh.out.to (Q' := { Q with ru := Q.ru ++ [c] }) (row_set 3 _ Hh.out.row) rfl (fun k _ hk => Below.heap_setCell _ _ _ _ (by simpa using fun e => hk e)) (by simp)).alloc _).drew
  · exact (((Below.refl B w).setCell (p := ⟨R, 3, none⟩) hBR _).alloc (by simp; omega) _).drew
  rintro wn ⟨hn, hbn⟩
  have hTn := HT.out.below hbn h1B h2B
  clear c0 c1 c2 c3 c4 c5 c6 f3 hcv hmx Hh HT
  have hRn := hn.lt
  have hzn : B ≤ wn.heap.size := by have := hbn.size; omega
  obtain ⟨c0, c1, c2, c3, c4, c5, c6, cf⟩ := cellR hn.row
  clear c0 c1 c2 c4 c5 c6 cf
  dsimp only at c3
  have hne : Q.ru ++ [c] ≠ [] := by simp
  have hln : (Q.ru ++ [c]).length ≤ 4 := by simp; omega
  generalize hL : Q.ru ++ [c] = L at *
  cases hU : isU L with
  | true =>
    have hP : plainQ Q c = .ok { Q with out := Q.out ++ L.take (decL L).2, ru := [] } := by unfold plainQ; rw [hL, if_pos hU]
    obtain ⟨m, hm⟩ : ∃ m, (decL L).2 = m := ⟨_, rfl⟩
    obtain ⟨rr, hrr⟩ : ∃ m, (decL L).1 = m := ⟨_, rfl⟩
    have hmL : m ≤ L.length := by
      have := (isU_iff hne).1 hU
      rw [decL_done hne this] at hm
      have := this.2.1
      omega
    have HN := next_yes hTn hU
    rw [hm, hrr] at HN
    rw [hm] at hP
    have HP := Lib.hid hP
    clear hP
    have HN2 := Lib.hid HN
    clear HN hm hrr hL
    have hsl := fun W => slice_str L m hmL W
    go_wp2_with fail
    refine HN2.out.mono ?_
    rintro e w1 ⟨rfl, hb1⟩
    have h1 := hn.below hb1 (Nat.le_refl _)
    have hb01 := hbn.trans (hb1.mono (by omega))
    have hR1 := h1.lt
    obtain ⟨c0, c1, c2, c3', c4, c5, c6, cf⟩ := cellR h1.row
    clear c0 c1 c2 c4 c5 c6 cf c3
    dsimp only at c3'
    unfold strV at c3'
    have Hn := Lib.hid h1
    have HB := Lib.hid hb01
    have HW := writeS_any (Q := { Q with ru := L }) (L.take m) (by simp; omega) hl h1.drew
    unfold strV at HW
    have HW2 := Lib.hid HW
    clear hn hbn hTn HN2 h1 hb1 hb01 HW
    go_upto_region 4 with fail
    go_region_with (go_at_call 39; refine HW2.out.mono ?_; rintro e w2 ⟨rfl, ⟨buf', h2⟩, hb2⟩)
    obtain ⟨d0, d1, d2, d3, d4, d5, d6, df⟩ := cellR h2.row
    have f3 := df 3
    have hz2 := hb2.size
    have hbb := HB.out.drew.trans hb2
    clear d0 d1 d2 d4 d5 d6 df
    go_wp2_with fail
    go_returns
    rw [HP.out]
    exact UPost.ok (Q := { Q with out := Q.out ++ L.take m, ru := [] }) (h2.to (row_set 3 _ h2.row) rfl (fun k _ hk => Below.heap_setCell _ _ _ _ (by simpa using fun e => hk e)) (by simp)) (hbb.setCell (p := ⟨R, 3, none⟩) hBR _)
  | false =>
    have HN := Lib.hid (next_no hTn hU)
    have HF := Lib.hid (fun (W : World) (hb : Below wn.heap.size wn W) => full_any hne W (hTn.below hb (by omega) (by omega)))
    unfold strV at HF HN
    cases hF : fullU L with
    | true =>
      have HP := Lib.hid (show plainQ Q c = .error 40 by unfold plainQ; rw [hL, if_neg (by simp [hU]), if_pos hF])
      rw [hF] at HF
      clear hL hF
      go_wp2_with fail
      refine HN.out.mono ?_
      rintro e w1 ⟨rfl, hb1⟩
      obtain ⟨c0, c1, c2, c3', c4, c5, c6, cf⟩ := cellR (hn.below hb1 (Nat.le_refl _)).row
      clear c0 c1 c2 c4 c5 c6 cf c3
      dsimp only at c3'
      unfold strV at c3'
      go_wp2_with fail
      refine (HF.out _ hb1).mono ?_
      rintro e w2 ⟨rfl, hb2⟩
      go_wp2_with fail
      go_returns
      rw [HP.out]
      exact UPost.err (er := 40) ((hbn.trans (hb1.mono hzn)).trans (hb2.mono (by have := hb1.size; omega)))
    | false =>
      have HP := Lib.hid (show plainQ Q c = .ok { Q with ru := L } by unfold plainQ; rw [hL, if_neg (by simp [hU]), if_neg (by simp [hF])])
      rw [hF] at HF
      clear hL hF
      go_wp2_with fail
      refine HN.out.mono ?_
      rintro e w1 ⟨rfl, hb1⟩
      have h1 := hn.below hb1 (Nat.le_refl _)
      obtain ⟨c0, c1, c2, c3', c4, c5, c6, cf⟩ := cellR h1.row
      clear c0 c1 c2 c4 c5 c6 cf c3
      dsimp only at c3'
      unfold strV at c3'
      have Hn := Lib.hid h1
      clear h1
      go_wp2_with fail
      refine (HF.out _ hb1).mono ?_
      rintro e w2 ⟨rfl, hb2⟩
      go_wp2_with fail
      go_returns
      rw [HP.out]
      exact UPost.ok (Q := { Q with ru := L }) (Hn.out.below hb2 (Nat.le_refl _)) ((hbn.trans (hb1.mono hzn)).trans (hb2.mono (by have := hb1.size; omega)))
end
end
section
open Go.RowKit Go.Shelf
theorem u8_ne {a b : UInt8} (h : a ≠ b) : ((a.toNat : Int) == b.toNat) = false := by
  simp only [beq_eq_false_iff_ne, ne_eq, Int.natCast_inj]
  exact fun e => h (UInt8.toNat_inj.1 e)
def qrE : QR → Int
  | .error e => e
  | .ok _ => 0
theorem UPost.val {B R : Nat} {w w' : World} {r : QR} {e : Ending} (h : UPost B R w r e w') : e = .returned (.int .i64 (qrE r)) := by
  cases r with
  | error er => exact h.1 er rfl
  | ok Q => exact (h.2.1 Q rfl).1
section
variable {B R : Nat} {w : World} {Q : UQ} {addr buf : Value}
set_option maxHeartbeats 4000000 in
set_option maxRecDepth 100000 in
theorem begin_any (c : UInt8) (hru : Q.ru.length ≤ 3) (hl : Q.out.length ≤ 1099511627776) (h : UOk B w R Q addr buf) (hT : Tabs w) (h1B : 1 < B) (h2B : 2 < B) :
    Calls Tryz.prog 141 #[.pointer (some ⟨R, 0, none⟩), .int .u8 c.toNat] w (UPost B R w (beginQ Q c)) := by
  have HP := Lib.hid (plain_any c hru hl h hT h1B h2B)
  have hBR := h.hB
  have hRw := h.lt
  obtain ⟨c0, c1, c2, c3, c4, c5, c6, cf⟩ := cellR h.row
  have f0 := cf 0
  clear cf c1 c2 c4 c5 c6
  unfold strV at c3
  have Hh := Lib.hid h
  clear h hT
  by_cases hr : Q.ru = []
  · rw [hr] at c3
    by_cases h34 : c = 34
    · have hQ := Lib.hid (show beginQ Q c = .ok { Q with st := 7 } by unfold beginQ; rw [if_neg (by simpa using hr), if_pos h34])
      subst h34
      clear hr
      go_enter Tryz.func141, Tryz.ntmps141
      go_wp2_with fail
      go_returns
      rw [hQ.out]
      exact UPost.ok (Q := { Q with st := 7 }) (Hh.out.to (row_set 0 _ Hh.out.row) rfl (fun k _ hk => Below.heap_setCell _ _ _ _ (by simpa using fun e => hk e)) (by simp)) ((Below.refl B w).setCell (p := ⟨R, 0, none⟩) hBR _)
    have e34 : ((c.toNat : Int) == 34) = false := u8_ne h34
    by_cases h92 : c = 92
    · have hQ := Lib.hid (show beginQ Q c = .ok { Q with st := 2 } by unfold beginQ; rw [if_neg (by simpa using hr), if_neg h34, if_pos h92])
      subst h92
      clear hr
      go_enter Tryz.func141, Tryz.ntmps141
      go_wp2_with fail
      go_returns
      rw [hQ.out]
      exact UPost.ok (Q := { Q with st := 2 }) (Hh.out.to (row_set 0 _ Hh.out.row) rfl (fun k _ hk => Below.heap_setCell _ _ _ _ (by simpa using fun e => hk e)) (by simp)) ((Below.refl B w).setCell (p := ⟨R, 0, none⟩) hBR _)
    have e92 : ((c.toNat : Int) == 92) = false := u8_ne h92
    by_cases h32 : c.toNat < 32
    · have hQ := Lib.hid (show beginQ Q c = .error 41 by unfold beginQ; rw [if_neg (by simpa using hr), if_neg h34, if_neg h92, if_pos h32])
      have hlt : (c.toNat : Int) < 32 := by omega
      clear hr h34 h92
      go_enter Tryz.func141, Tryz.ntmps141
      go_wp2_with fail
      go_returns
      rw [hQ.out]
      exact UPost.err (er := 41) (Below.refl _ _)
    · have hQ := Lib.hid (show beginQ Q c = plainQ Q c by unfold beginQ; rw [if_neg (by simpa using hr), if_neg h34, if_neg h92, if_neg h32])
      have hlt : ¬ (c.toNat : Int) < 32 := by omega
      clear hr h34 h92 h32
      rw [hQ.out]
      go_enter Tryz.func141, Tryz.ntmps141
      go_wp2_with fail
      refine HP.out.mono ?_
      intro e w1 he
      obtain rfl := he.val
      have he2 := Lib.hid he
      clear he
      generalize qrE (plainQ Q c) = v at *
      go_wp2_with fail
      go_returns
      exact he2.out
  · have hQ := Lib.hid (show beginQ Q c = plainQ Q c by unfold beginQ; rw [if_pos hr])
    rw [hQ.out]
    have hne : Q.ru.isEmpty = false := by simpa using hr
    clear hr
    go_enter Tryz.func141, Tryz.ntmps141
    go_wp2_with fail
    refine HP.out.mono ?_
    intro e w1 he
    obtain rfl := he.val
    have he2 := Lib.hid he
    clear he
    generalize qrE (plainQ Q c) = v at *
    go_wp2_with fail
    go_returns
    exact he2.out
set_option maxHeartbeats 4000000 in
set_option maxRecDepth 100000 in
theorem escape_any (c : UInt8) (hl : Q.out.length ≤ 1099511627776) (h : UOk B w R Q addr buf) :
    Calls Tryz.prog 142 #[.pointer (some ⟨R, 0, none⟩), .int .u8 c.toNat] w (UPost B R w (escapeQ Q c)) := by
  have HI := fun W => (Tryz.strings_IndexByte ⟨#[34, 92, 47, 98, 102, 110, 114, 116]⟩ (c.toNat : Int) W).mono fun e w' h => And.intro h.1 h.2.symm
  have hcn : ((c.toNat : Int).toNat).toUInt8 = c := by simp
  rw [hcn] at HI
  have HPut := fun (x : Int) (hx0 : 0 ≤ x) (hx1 : x ≤ 2147483647) => Lib.hid (put_any x hx0 hx1 hl h)
  have hBR := h.hB
  have hRw := h.lt
  obtain ⟨c0, c1, c2, c3, c4, c5, c6, cf⟩ := cellR h.row
  have f0 := cf 0
  have f4 := cf 4
  have f5 := cf 5
  clear cf c1 c2 c3 c6
  have Hh := Lib.hid h
  clear h hcn
  by_cases e0 : c = 34
  · subst e0
    have hq := Lib.hid (show escapeQ Q 34 = .ok (putQ Q 34) from rfl)
    have hi : Lib.indexByte [34, 92, 47, 98, 102, 110, 114, 116] 34 = 0 := by decide
    have hx : wrap32 (((⟨#[34, 92, 47, 8, 12, 10, 13, 9]⟩ : ByteArray)[0]'(by decide)).toNat : Int) = 34 := by decide +kernel
    have HP := HPut 34 (by omega) (by omega)
    rw [hi] at HI
    have HI2 := Lib.hid HI
    clear HPut hi HI
    go_enter Tryz.func142, Tryz.ntmps142
    go_wp2_with fail
    refine (HI2.out _).mono ?_
    rintro e w9 ⟨rfl, rfl⟩
    go_wp2_with fail
    refine HP.out.mono ?_
    rintro e w1 ⟨rfl, h1', hb1⟩
    have H1 := Lib.hid h1'
    have HB1 := Lib.hid hb1
    clear h1' hb1
    go_wp2_with fail
    go_returns
    rw [hq.out]
    obtain ⟨addr', buf', h1⟩ := H1.out
    exact UPost.ok (Q := putQ Q 34) h1 HB1.out
  by_cases e1 : c = 92
  · subst e1
    have hq := Lib.hid (show escapeQ Q 92 = .ok (putQ Q 92) from rfl)
    have hi : Lib.indexByte [34, 92, 47, 98, 102, 110, 114, 116] 92 = 1 := by decide
    have hx : wrap32 (((⟨#[34, 92, 47, 8, 12, 10, 13, 9]⟩ : ByteArray)[1]'(by decide)).toNat : Int) = 92 := by decide +kernel
    have HP := HPut 92 (by omega) (by omega)
    rw [hi] at HI
    have HI2 := Lib.hid HI
    clear HPut hi HI
    go_enter Tryz.func142, Tryz.ntmps142
    go_wp2_with fail
    refine (HI2.out _).mono ?_
    rintro e w9 ⟨rfl, rfl⟩
    go_wp2_with fail
    refine HP.out.mono ?_
    rintro e w1 ⟨rfl, h1', hb1⟩
    have H1 := Lib.hid h1'
    have HB1 := Lib.hid hb1
    clear h1' hb1
    go_wp2_with fail
    go_returns
    rw [hq.out]
    obtain ⟨addr', buf', h1⟩ := H1.out
    exact UPost.ok (Q := putQ Q 92) h1 HB1.out
  by_cases e2 : c = 47
  · subst e2
    have hq := Lib.hid (show escapeQ Q 47 = .ok (putQ Q 47) from rfl)
    have hi : Lib.indexByte [34, 92, 47, 98, 102, 110, 114, 116] 47 = 2 := by decide
    have hx : wrap32 (((⟨#[34, 92, 47, 8, 12, 10, 13, 9]⟩ : ByteArray)[2]'(by decide)).toNat : Int) = 47 := by decide +kernel
    have HP := HPut 47 (by omega) (by omega)
    rw [hi] at HI
    have HI2 := Lib.hid HI
    clear HPut hi HI
    go_enter Tryz.func142, Tryz.ntmps142
    go_wp2_with fail
    refine (HI2.out _).mono ?_
    rintro e w9 ⟨rfl, rfl⟩
    go_wp2_with fail
    refine HP.out.mono ?_
    rintro e w1 ⟨rfl, h1', hb1⟩
    have H1 := Lib.hid h1'
    have HB1 := Lib.hid hb1
    clear h1' hb1
    go_wp2_with fail
    go_returns
    rw [hq.out]
    obtain ⟨addr', buf', h1⟩ := H1.out
    exact UPost.ok (Q := putQ Q 47) h1 HB1.out
  by_cases e3 : c = 98
  · subst e3
    have hq := Lib.hid (show escapeQ Q 98 = .ok (putQ Q 8) from rfl)
    have hi : Lib.indexByte [34, 92, 47, 98, 102, 110, 114, 116] 98 = 3 := by decide
    have hx : wrap32 (((⟨#[34, 92, 47, 8, 12, 10, 13, 9]⟩ : ByteArray)[3]'(by decide)).toNat : Int) = 8 := by decide +kernel
    have HP := HPut 8 (by omega) (by omega)
    rw [hi] at HI
    have HI2 := Lib.hid HI
    clear HPut hi HI
    go_enter Tryz.func142, Tryz.ntmps142
    go_wp2_with fail
    refine (HI2.out _).mono ?_
    rintro e w9 ⟨rfl, rfl⟩
    go_wp2_with fail
    refine HP.out.mono ?_
    rintro e w1 ⟨rfl, h1', hb1⟩
    have H1 := Lib.hid h1'
    have HB1 := Lib.hid hb1
    clear h1' hb1
    go_wp2_with fail
    go_returns
    rw [hq.out]
    obtain ⟨addr', buf', h1⟩ := H1.out
    exact UPost.ok (Q := putQ Q 8) h1 HB1.out
  by_cases e4 : c = 102
  · subst e4
    have hq := Lib.hid (show escapeQ Q 102 = .ok (putQ Q 12) from rfl)
    have hi : Lib.indexByte [34, 92, 47, 98, 102, 110, 114, 116] 102 = 4 := by decide
    have hx : wrap32 (((⟨#[34, 92, 47, 8, 12, 10, 13, 9]⟩ : ByteArray)[4]'(by decide)).toNat : Int) = 12 := by decide +kernel
    have HP := HPut 12 (by omega) (by omega)
    rw [hi] at HI
    have HI2 := Lib.hid HI
    clear HPut hi HI
    go_enter Tryz.func142, Tryz.ntmps142
    go_wp2_with fail
    refine (HI2.out _).mono ?_
    rintro e w9 ⟨rfl, rfl⟩
    go_wp2_with fail
    refine HP.out.mono ?_
    rintro e w1 ⟨rfl, h1', hb1⟩
    have H1 := Lib.hid h1'
    have HB1 := Lib.hid hb1
    clear h1' hb1
    go_wp2_with fail
    go_returns
    rw [hq.out]
    obtain ⟨addr', buf', h1⟩ := H1.out
    exact UPost.ok (Q := putQ Q 12) h1 HB1.out
  by_cases e5 : c = 110
  · subst e5
    have hq := Lib.hid (show escapeQ Q 110 = .ok (putQ Q 10) from rfl)
    have hi : Lib.indexByte [34, 92, 47, 98, 102, 110, 114, 116] 110 = 5 := by decide
    have hx : wrap32 (((⟨#[34, 92, 47, 8, 12, 10, 13, 9]⟩ : ByteArray)[5]'(by decide)).toNat : Int) = 10 := by decide +kernel
    have HP := HPut 10 (by omega) (by omega)
    rw [hi] at HI
    have HI2 := Lib.hid HI
    clear HPut hi HI
    go_enter Tryz.func142, Tryz.ntmps142
    go_wp2_with fail
    refine (HI2.out _).mono ?_
    rintro e w9 ⟨rfl, rfl⟩
    go_wp2_with fail
    refine HP.out.mono ?_
    rintro e w1 ⟨rfl, h1', hb1⟩
    have H1 := Lib.hid h1'
    have HB1 := Lib.hid hb1
    clear h1' hb1
    go_wp2_with fail
    go_returns
    rw [hq.out]
    obtain ⟨addr', buf', h1⟩ := H1.out
    exact UPost.ok (Q := putQ Q 10) h1 HB1.out
  by_cases e6 : c = 114
  · subst e6
    have hq := Lib.hid (show escapeQ Q 114 = .ok (putQ Q 13) from rfl)
    have hi : Lib.indexByte [34, 92, 47, 98, 102, 110, 114, 116] 114 = 6 := by decide
    have hx : wrap32 (((⟨#[34, 92, 47, 8, 12, 10, 13, 9]⟩ : ByteArray)[6]'(by decide)).toNat : Int) = 13 := by decide +kernel
    have HP := HPut 13 (by omega) (by omega)
    rw [hi] at HI
    have HI2 := Lib.hid HI
    clear HPut hi HI
    go_enter Tryz.func142, Tryz.ntmps142
    go_wp2_with fail
    refine (HI2.out _).mono ?_
    rintro e w9 ⟨rfl, rfl⟩
    go_wp2_with fail
    refine HP.out.mono ?_
    rintro e w1 ⟨rfl, h1', hb1⟩
    have H1 := Lib.hid h1'
    have HB1 := Lib.hid hb1
    clear h1' hb1
    go_wp2_with fail
    go_returns
    rw [hq.out]
    obtain ⟨addr', buf', h1⟩ := H1.out
    exact UPost.ok (Q := putQ Q 13) h1 HB1.out
  by_cases e7 : c = 116
  · subst e7
    have hq := Lib.hid (show escapeQ Q 116 = .ok (putQ Q 9) from rfl)
    have hi : Lib.indexByte [34, 92, 47, 98, 102, 110, 114, 116] 116 = 7 := by decide
    have hx : wrap32 (((⟨#[34, 92, 47, 8, 12, 10, 13, 9]⟩ : ByteArray)[7]'(by decide)).toNat : Int) = 9 := by decide +kernel
    have HP := HPut 9 (by omega) (by omega)
    rw [hi] at HI
    have HI2 := Lib.hid HI
    clear HPut hi HI
    go_enter Tryz.func142, Tryz.ntmps142
    go_wp2_with fail
    refine (HI2.out _).mono ?_
    rintro e w9 ⟨rfl, rfl⟩
    go_wp2_with fail
    refine HP.out.mono ?_
    rintro e w1 ⟨rfl, h1', hb1⟩
    have H1 := Lib.hid h1'
    have HB1 := Lib.hid hb1
    clear h1' hb1
    go_wp2_with fail
    go_returns
    rw [hq.out]
    obtain ⟨addr', buf', h1⟩ := H1.out
    exact UPost.ok (Q := putQ Q 9) h1 HB1.out
  have hi : Lib.indexByte [34, 92, 47, 98, 102, 110, 114, 116] c = -1 := by
    simp [Lib.indexByte, Ne.symm e0, Ne.symm e1, Ne.symm e2, Ne.symm e3, Ne.symm e4, Ne.symm e5, Ne.symm e6, Ne.symm e7]
  have he : escV c = -1 := by unfold escV; rw [if_neg e0, if_neg e1, if_neg e2, if_neg e3, if_neg e4, if_neg e5, if_neg e6, if_neg e7]
  rw [hi] at HI
  have HI2 := Lib.hid HI
  clear HPut hi HI e0 e1 e2 e3 e4 e5 e6 e7
  by_cases h117 : c = 117
  · have hq := Lib.hid (show escapeQ Q c = .ok { Q with st := 3, many := 0, n := 0 } by unfold escapeQ; rw [he, if_neg (by decide), if_pos h117])
    subst h117
    clear he
    go_enter Tryz.func142, Tryz.ntmps142
    go_wp2_with fail
    refine (HI2.out _).mono ?_
    rintro e w9 ⟨rfl, rfl⟩
    go_wp2_with fail
    go_returns
    rw [hq.out]
    refine UPost.ok (Q := { Q with st := 3, many := 0, n := 0 }) (Hh.out.to (row_set 5 _ (row_set 4 _ (row_set 0 _ Hh.out.row))) rfl (fun k _ hk => ?_) (by simp)) ((((Below.refl B w).setCell (p := ⟨R, 0, none⟩) hBR _).setCell (p := ⟨R, 4, none⟩) hBR _).setCell (p := ⟨R, 5, none⟩) hBR _)
    rw [Below.heap_setCell _ _ _ _ (by simpa using fun e => hk e), Below.heap_setCell _ _ _ _ (by simpa using fun e => hk e), Below.heap_setCell _ _ _ _ (by simpa using fun e => hk e)]
  · have hq := Lib.hid (show escapeQ Q c = .error 41 by unfold escapeQ; rw [he, if_neg (by decide), if_neg h117])
    have e117 : ((c.toNat : Int) == 117) = false := u8_ne h117
    clear he h117
    go_enter Tryz.func142, Tryz.ntmps142
    go_wp2_with fail
    refine (HI2.out _).mono ?_
    rintro e w9 ⟨rfl, rfl⟩
    go_wp2_with fail
    go_returns
    rw [hq.out]
    exact UPost.err (er := 41) (Below.refl _ _)
end
end
end Go.Proofs.YtccmhhmdenfecaaGreatDoor
