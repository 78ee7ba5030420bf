/- The walks of utf.reader's begin and escape. -/
import Derived.Test.YtgdhepoffnpgiaaDoorLe
namespace Go.Proofs.YtgdhepoffnpgiaaDoor
set_option linter.unusedVariables false
set_option linter.unusedSimpArgs false
set_option linter.unusedSectionVars false
open Go.RowKit Go.Shelf
theorem u8_ne {a b : UInt8} (h : a ≠ b) : ((a.toNat : Int) == b.toNat) = false := by
  simp only [beq_eq_false_iff_ne, ne_eq, Int.natCast_inj]
  exact fun e => h (UInt8.toNat_inj.1 e)
def qrE : QR → Int
  | .error e => e
  | .ok _ => 0
theorem UPost.val {B R : Nat} {w w' : World} {r : QR} {e : Ending} (h : UPost B R w r e w') : e = .returned (.int .i64 (qrE r)) := by
  cases r with
  | error er => exact h.1 er rfl
  | ok Q => exact (h.2.1 Q rfl).1
section
variable {B R : Nat} {w : World} {Q : UQ} {addr buf : Value}
set_option maxHeartbeats 4000000 in
set_option maxRecDepth 100000 in
theorem begin_any (c : UInt8) (hru : Q.ru.length ≤ 3) (hl : Q.out.length ≤ 1099511627776) (h : UOk B w R Q addr buf) (hT : Tabs w) (h1B : 1 < B) (h2B : 2 < B) :
    Calls Tryd.prog 91 #[.pointer (some ⟨R, 0, none⟩), .int .u8 c.toNat] w (UPost B R w (beginQ Q c)) := by
  have HP := Lib.hid (plain_any c hru hl h hT h1B h2B)
  have hBR := h.hB
  have hRw := h.lt
  obtain ⟨c0, c1, c2, c3, c4, c5, c6, cf⟩ := cellR h.row
  have f0 := cf 0
  clear cf c1 c2 c4 c5 c6
  unfold strV at c3
  have Hh := Lib.hid h
  clear h hT
  by_cases hr : Q.ru = []
  · rw [hr] at c3
    by_cases h34 : c = 34
    · have hQ := Lib.hid (show beginQ Q c = .ok { Q with st := 7 } by unfold beginQ; rw [if_neg (by simpa using hr), if_pos h34])
      subst h34
      clear hr
      go_enter Tryd.func91, Tryd.ntmps91
      go_wp2_with fail
      go_returns
      rw [hQ.out]
      exact UPost.ok (Q := { Q with st := 7 }) (Hh.out.to (row_set 0 _ Hh.out.row) rfl (fun k _ hk => Below.heap_setCell _ _ _ _ (by simpa using fun e => hk e)) (by simp)) ((Below.refl B w).setCell (p := ⟨R, 0, none⟩) hBR _)
    have e34 : ((c.toNat : Int) == 34) = false := u8_ne h34
    by_cases h92 : c = 92
    · have hQ := Lib.hid (show beginQ Q c = .ok { Q with st := 2 } by unfold beginQ; rw [if_neg (by simpa using hr), if_neg h34, if_pos h92])
      subst h92
      clear hr
      go_enter Tryd.func91, Tryd.ntmps91
      go_wp2_with fail
      go_returns
      rw [hQ.out]
      exact UPost.ok (Q := { Q with st := 2 }) (Hh.out.to (row_set 0 _ Hh.out.row) rfl (fun k _ hk => Below.heap_setCell _ _ _ _ (by simpa using fun e => hk e)) (by simp)) ((Below.refl B w).setCell (p := ⟨R, 0, none⟩) hBR _)
    have e92 : ((c.toNat : Int) == 92) = false := u8_ne h92
    by_cases h32 : c.toNat < 32
    · have hQ := Lib.hid (show beginQ Q c = .error 41 by unfold beginQ; rw [if_neg (by simpa using hr), if_neg h34, if_neg h92, if_pos h32])
      have hlt : (c.toNat : Int) < 32 := by omega
      clear hr h34 h92
      go_enter Tryd.func91, Tryd.ntmps91
      go_wp2_with fail
      go_returns
      rw [hQ.out]
      exact UPost.err (er := 41) (Below.refl _ _)
    · have hQ := Lib.hid (show beginQ Q c = plainQ Q c by unfold beginQ; rw [if_neg (by simpa using hr), if_neg h34, if_neg h92, if_neg h32])
      have hlt : ¬ (c.toNat : Int) < 32 := by omega
      clear hr h34 h92 h32
      rw [hQ.out]
      go_enter Tryd.func91, Tryd.ntmps91
      go_wp2_with fail
      refine HP.out.mono ?_
      intro e w1 he
      obtain rfl := he.val
      have he2 := Lib.hid he
      clear he
      generalize qrE (plainQ Q c) = v at *
      go_wp2_with fail
      go_returns
      exact he2.out
  · have hQ := Lib.hid (show beginQ Q c = plainQ Q c by unfold beginQ; rw [if_pos hr])
    rw [hQ.out]
    have hne : Q.ru.isEmpty = false := by simpa using hr
    clear hr
    go_enter Tryd.func91, Tryd.ntmps91
    go_wp2_with fail
    refine HP.out.mono ?_
    intro e w1 he
    obtain rfl := he.val
    have he2 := Lib.hid he
    clear he
    generalize qrE (plainQ Q c) = v at *
    go_wp2_with fail
    go_returns
    exact he2.out
set_option maxHeartbeats 4000000 in
set_option maxRecDepth 100000 in
theorem escape_any (c : UInt8) (hl : Q.out.length ≤ 1099511627776) (h : UOk B w R Q addr buf) :
    Calls Tryd.prog 92 #[.pointer (some ⟨R, 0, none⟩), .int .u8 c.toNat] w (UPost B R w (escapeQ Q c)) := by
  have HI := fun W => (Tryd.strings_IndexByte ⟨#[34, 92, 47, 98, 102, 110, 114, 116]⟩ (c.toNat : Int) W).mono fun e w' h => And.intro h.1 h.2.symm
  have hcn : ((c.toNat : Int).toNat).toUInt8 = c := by simp
  rw [hcn] at HI
  have HPut := fun (x : Int) (hx0 : 0 ≤ x) (hx1 : x ≤ 2147483647) => Lib.hid (put_any x hx0 hx1 hl h)
  have hBR := h.hB
  have hRw := h.lt
  obtain ⟨c0, c1, c2, c3, c4, c5, c6, cf⟩ := cellR h.row
  have f0 := cf 0
  have f4 := cf 4
  have f5 := cf 5
  clear cf c1 c2 c3 c6
  have Hh := Lib.hid h
  clear h hcn
  by_cases e0 : c = 34
  · subst e0
    have hq := Lib.hid (show escapeQ Q 34 = .ok (putQ Q 34) from rfl)
    have hi : Lib.indexByte [34, 92, 47, 98, 102, 110, 114, 116] 34 = 0 := by decide
    have hx : wrap32 (((⟨#[34, 92, 47, 8, 12, 10, 13, 9]⟩ : ByteArray)[0]'(by decide)).toNat : Int) = 34 := by decide +kernel
    have HP := HPut 34 (by omega) (by omega)
    rw [hi] at HI
    have HI2 := Lib.hid HI
    clear HPut hi HI
    go_enter Tryd.func92, Tryd.ntmps92
    go_wp2_with fail
    refine (HI2.out _).mono ?_
    rintro e w9 ⟨rfl, rfl⟩
    go_wp2_with fail
    refine HP.out.mono ?_
    rintro e w1 ⟨rfl, h1', hb1⟩
    have H1 := Lib.hid h1'
    have HB1 := Lib.hid hb1
    clear h1' hb1
    go_wp2_with fail
    go_returns
    rw [hq.out]
    obtain ⟨addr', buf', h1⟩ := H1.out
    exact UPost.ok (Q := putQ Q 34) h1 HB1.out
  by_cases e1 : c = 92
  · subst e1
    have hq := Lib.hid (show escapeQ Q 92 = .ok (putQ Q 92) from rfl)
    have hi : Lib.indexByte [34, 92, 47, 98, 102, 110, 114, 116] 92 = 1 := by decide
    have hx : wrap32 (((⟨#[34, 92, 47, 8, 12, 10, 13, 9]⟩ : ByteArray)[1]'(by decide)).toNat : Int) = 92 := by decide +kernel
    have HP := HPut 92 (by omega) (by omega)
    rw [hi] at HI
    have HI2 := Lib.hid HI
    clear HPut hi HI
    go_enter Tryd.func92, Tryd.ntmps92
    go_wp2_with fail
    refine (HI2.out _).mono ?_
    rintro e w9 ⟨rfl, rfl⟩
    go_wp2_with fail
    refine HP.out.mono ?_
    rintro e w1 ⟨rfl, h1', hb1⟩
    have H1 := Lib.hid h1'
    have HB1 := Lib.hid hb1
    clear h1' hb1
    go_wp2_with fail
    go_returns
    rw [hq.out]
    obtain ⟨addr', buf', h1⟩ := H1.out
    exact UPost.ok (Q := putQ Q 92) h1 HB1.out
  by_cases e2 : c = 47
  · subst e2
    have hq := Lib.hid (show escapeQ Q 47 = .ok (putQ Q 47) from rfl)
    have hi : Lib.indexByte [34, 92, 47, 98, 102, 110, 114, 116] 47 = 2 := by decide
    have hx : wrap32 (((⟨#[34, 92, 47, 8, 12, 10, 13, 9]⟩ : ByteArray)[2]'(by decide)).toNat : Int) = 47 := by decide +kernel
    have HP := HPut 47 (by omega) (by omega)
    rw [hi] at HI
    have HI2 := Lib.hid HI
    clear HPut hi HI
    go_enter Tryd.func92, Tryd.ntmps92
    go_wp2_with fail
    refine (HI2.out _).mono ?_
    rintro e w9 ⟨rfl, rfl⟩
    go_wp2_with fail
    refine HP.out.mono ?_
    rintro e w1 ⟨rfl, h1', hb1⟩
    have H1 := Lib.hid h1'
    have HB1 := Lib.hid hb1
    clear h1' hb1
    go_wp2_with fail
    go_returns
    rw [hq.out]
    obtain ⟨addr', buf', h1⟩ := H1.out
    exact UPost.ok (Q := putQ Q 47) h1 HB1.out
  by_cases e3 : c = 98
  · subst e3
    have hq := Lib.hid (show escapeQ Q 98 = .ok (putQ Q 8) from rfl)
    have hi : Lib.indexByte [34, 92, 47, 98, 102, 110, 114, 116] 98 = 3 := by decide
    have hx : wrap32 (((⟨#[34, 92, 47, 8, 12, 10, 13, 9]⟩ : ByteArray)[3]'(by decide)).toNat : Int) = 8 := by decide +kernel
    have HP := HPut 8 (by omega) (by omega)
    rw [hi] at HI
    have HI2 := Lib.hid HI
    clear HPut hi HI
    go_enter Tryd.func92, Tryd.ntmps92
    go_wp2_with fail
    refine (HI2.out _).mono ?_
    rintro e w9 ⟨rfl, rfl⟩
    go_wp2_with fail
    refine HP.out.mono ?_
    rintro e w1 ⟨rfl, h1', hb1⟩
    have H1 := Lib.hid h1'
    have HB1 := Lib.hid hb1
    clear h1' hb1
    go_wp2_with fail
    go_returns
    rw [hq.out]
    obtain ⟨addr', buf', h1⟩ := H1.out
    exact UPost.ok (Q := putQ Q 8) h1 HB1.out
  by_cases e4 : c = 102
  · subst e4
    have hq := Lib.hid (show escapeQ Q 102 = .ok (putQ Q 12) from rfl)
    have hi : Lib.indexByte [34, 92, 47, 98, 102, 110, 114, 116] 102 = 4 := by decide
    have hx : wrap32 (((⟨#[34, 92, 47, 8, 12, 10, 13, 9]⟩ : ByteArray)[4]'(by decide)).toNat : Int) = 12 := by decide +kernel
    have HP := HPut 12 (by omega) (by omega)
    rw [hi] at HI
    have HI2 := Lib.hid HI
    clear HPut hi HI
    go_enter Tryd.func92, Tryd.ntmps92
    go_wp2_with fail
    refine (HI2.out _).mono ?_
    rintro e w9 ⟨rfl, rfl⟩
    go_wp2_with fail
    refine HP.out.mono ?_
    rintro e w1 ⟨rfl, h1', hb1⟩
    have H1 := Lib.hid h1'
    have HB1 := Lib.hid hb1
    clear h1' hb1
    go_wp2_with fail
    go_returns
    rw [hq.out]
    obtain ⟨addr', buf', h1⟩ := H1.out
    exact UPost.ok (Q := putQ Q 12) h1 HB1.out
  by_cases e5 : c = 110
  · subst e5
    have hq := Lib.hid (show escapeQ Q 110 = .ok (putQ Q 10) from rfl)
    have hi : Lib.indexByte [34, 92, 47, 98, 102, 110, 114, 116] 110 = 5 := by decide
    have hx : wrap32 (((⟨#[34, 92, 47, 8, 12, 10, 13, 9]⟩ : ByteArray)[5]'(by decide)).toNat : Int) = 10 := by decide +kernel
    have HP := HPut 10 (by omega) (by omega)
    rw [hi] at HI
    have HI2 := Lib.hid HI
    clear HPut hi HI
    go_enter Tryd.func92, Tryd.ntmps92
    go_wp2_with fail
    refine (HI2.out _).mono ?_
    rintro e w9 ⟨rfl, rfl⟩
    go_wp2_with fail
    refine HP.out.mono ?_
    rintro e w1 ⟨rfl, h1', hb1⟩
    have H1 := Lib.hid h1'
    have HB1 := Lib.hid hb1
    clear h1' hb1
    go_wp2_with fail
    go_returns
    rw [hq.out]
    obtain ⟨addr', buf', h1⟩ := H1.out
    exact UPost.ok (Q := putQ Q 10) h1 HB1.out
  by_cases e6 : c = 114
  · subst e6
    have hq := Lib.hid (show escapeQ Q 114 = .ok (putQ Q 13) from rfl)
    have hi : Lib.indexByte [34, 92, 47, 98, 102, 110, 114, 116] 114 = 6 := by decide
    have hx : wrap32 (((⟨#[34, 92, 47, 8, 12, 10, 13, 9]⟩ : ByteArray)[6]'(by decide)).toNat : Int) = 13 := by decide +kernel
    have HP := HPut 13 (by omega) (by omega)
    rw [hi] at HI
    have HI2 := Lib.hid HI
    clear HPut hi HI
    go_enter Tryd.func92, Tryd.ntmps92
    go_wp2_with fail
    refine (HI2.out _).mono ?_
    rintro e w9 ⟨rfl, rfl⟩
    go_wp2_with fail
    refine HP.out.mono ?_
    rintro e w1 ⟨rfl, h1', hb1⟩
    have H1 := Lib.hid h1'
    have HB1 := Lib.hid hb1
    clear h1' hb1
    go_wp2_with fail
    go_returns
    rw [hq.out]
    obtain ⟨addr', buf', h1⟩ := H1.out
    exact UPost.ok (Q := putQ Q 13) h1 HB1.out
  by_cases e7 : c = 116
  · subst e7
    have hq := Lib.hid (show escapeQ Q 116 = .ok (putQ Q 9) from rfl)
    have hi : Lib.indexByte [34, 92, 47, 98, 102, 110, 114, 116] 116 = 7 := by decide
    have hx : wrap32 (((⟨#[34, 92, 47, 8, 12, 10, 13, 9]⟩ : ByteArray)[7]'(by decide)).toNat : Int) = 9 := by decide +kernel
    have HP := HPut 9 (by omega) (by omega)
    rw [hi] at HI
    have HI2 := Lib.hid HI
    clear HPut hi HI
    go_enter Tryd.func92, Tryd.ntmps92
    go_wp2_with fail
    refine (HI2.out _).mono ?_
    rintro e w9 ⟨rfl, rfl⟩
    go_wp2_with fail
    refine HP.out.mono ?_
    rintro e w1 ⟨rfl, h1', hb1⟩
    have H1 := Lib.hid h1'
    have HB1 := Lib.hid hb1
    clear h1' hb1
    go_wp2_with fail
    go_returns
    rw [hq.out]
    obtain ⟨addr', buf', h1⟩ := H1.out
    exact UPost.ok (Q := putQ Q 9) h1 HB1.out
  have hi : Lib.indexByte [34, 92, 47, 98, 102, 110, 114, 116] c = -1 := by
    simp [Lib.indexByte, Ne.symm e0, Ne.symm e1, Ne.symm e2, Ne.symm e3, Ne.symm e4, Ne.symm e5, Ne.symm e6, Ne.symm e7]
  have he : escV c = -1 := by unfold escV; rw [if_neg e0, if_neg e1, if_neg e2, if_neg e3, if_neg e4, if_neg e5, if_neg e6, if_neg e7]
  rw [hi] at HI
  have HI2 := Lib.hid HI
  clear HPut hi HI e0 e1 e2 e3 e4 e5 e6 e7
  by_cases h117 : c = 117
  · have hq := Lib.hid (show escapeQ Q c = .ok { Q with st := 3, many := 0, n := 0 } by unfold escapeQ; rw [he, if_neg (by decide), if_pos h117])
    subst h117
    clear he
    go_enter Tryd.func92, Tryd.ntmps92
    go_wp2_with fail
    refine (HI2.out _).mono ?_
    rintro e w9 ⟨rfl, rfl⟩
    go_wp2_with fail
    go_returns
    rw [hq.out]
    refine UPost.ok (Q := { Q with st := 3, many := 0, n := 0 }) (Hh.out.to (row_set 5 _ (row_set 4 _ (row_set 0 _ Hh.out.row))) rfl (fun k _ hk => ?_) (by simp)) ((((Below.refl B w).setCell (p := ⟨R, 0, none⟩) hBR _).setCell (p := ⟨R, 4, none⟩) hBR _).setCell (p := ⟨R, 5, none⟩) hBR _)
    rw [Below.heap_setCell _ _ _ _ (by simpa using fun e => hk e), Below.heap_setCell _ _ _ _ (by simpa using fun e => hk e), Below.heap_setCell _ _ _ _ (by simpa using fun e => hk e)]
  · have hq := Lib.hid (show escapeQ Q c = .error 41 by unfold escapeQ; rw [he, if_neg (by decide), if_neg h117])
    have e117 : ((c.toNat : Int) == 117) = false := u8_ne h117
    clear he h117
    go_enter Tryd.func92, Tryd.ntmps92
    go_wp2_with fail
    refine (HI2.out _).mono ?_
    rintro e w9 ⟨rfl, rfl⟩
    go_wp2_with fail
    go_returns
    rw [hq.out]
    exact UPost.err (er := 41) (Below.refl _ _)
end
end Go.Proofs.YtgdhepoffnpgiaaDoor
