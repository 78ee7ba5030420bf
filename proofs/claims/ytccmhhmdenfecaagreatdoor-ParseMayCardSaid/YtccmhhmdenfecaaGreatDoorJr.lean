/- The walk of accordionlaw11.ParseMay. -/
import Derived.Test.YtccmhhmdenfecaaGreatDoorJq
import Derived.Test.YtccmhhmdenfecaaGreatDoorJn
import Derived.Test.YtccmhhmdenfecaaGreatDoorEh
namespace Go.Proofs.YtccmhhmdenfecaaGreatDoor
set_option linter.unusedVariables false
set_option linter.unusedSimpArgs false
section
open Go.RowKit Go.Shelf
theorem flat_get6 : ∀ (l : List Tok) (j i : Nat), i < 6 → (l.flatMap tokC)[j * 6 + i]? = (l[j]?).bind fun t => (tokC t)[i]?
  | [], j, i, _ => by simp
  | t :: l, 0, i, h => by
    rw [List.flatMap_cons, Nat.zero_mul, Nat.zero_add, List.getElem?_append_left (by show i < 6; exact h)]
    rfl
  | t :: l, j + 1, i, h => by
    rw [List.flatMap_cons, List.getElem?_append_right (by show 6 ≤ _; omega)]
    have := flat_get6 l j i h
    rw [show (j + 1) * 6 + i - (tokC t).length = j * 6 + i by show _ - 6 = _; omega, this]
    rfl
/-- The cells of the j-th token of an own row. -/
theorem row_tok {B : Nat} {w : World} {T : TypeId} {A : Option Addr} {c : Nat} {l : List Tok} {j : Nat} {r0 r1 r2 r3 r4 : Int} {r5 : List UInt8} (hT : w.ownsRow B T 6 (.slice A l.length c) l.length (l.flatMap tokC)) (hj : l[j]? = some ⟨r0, r1, r2, r3, r4, r5⟩) :
    ∃ g, A = some ⟨g, 0, none⟩ ∧ l.length ≤ c ∧ c ≤ maxLen ∧ g < w.heap.size ∧ w.cell? ⟨g, j * 6, none⟩ = some (.int .i64 r0) ∧ w.cell? ⟨g, j * 6 + 1, none⟩ = some (.int .i64 r1) ∧ w.cell? ⟨g, j * 6 + 2, none⟩ = some (.int .i64 r2) ∧ w.cell? ⟨g, j * 6 + 3, none⟩ = some (.int .i64 r3) ∧ w.cell? ⟨g, j * 6 + 4, none⟩ = some (.int .u64 r4) ∧ w.cell? ⟨g, j * 6 + 5, none⟩ = some (.string ⟨r5.toArray⟩) := by
  have hlt : j < l.length := (List.getElem?_eq_some_iff.1 hj).1
  obtain ⟨g, cap, hAe, hcap, hcur⟩ : ∃ g cap, (Value.slice A l.length c) = .slice (some ⟨g, 0, none⟩) l.length cap ∧ (l.length ≤ cap ∧ cap ≤ maxLen) ∧ g < w.heap.size := by
    rcases hT.2 with ⟨-, h⟩ | ⟨g, cap, cur, h, -, h0, h1, h2, -⟩
    · omega
    · exact ⟨g, cap, h, ⟨h1, h2⟩, row_lt h0⟩
  obtain ⟨rfl, -, rfl⟩ := Value.slice.inj hAe
  have hat : ∀ i, i < 6 → w.cell? ⟨g, j * 6 + i, none⟩ = (tokC ⟨r0, r1, r2, r3, r4, r5⟩)[i]? := fun i hi => by
    rw [World.ownsRow.cellAt hT (j * 6 + i) (by omega), flat_get6 _ _ _ hi, hj]
    rfl
  exact ⟨g, rfl, hcap.1, hcap.2, hcur, hat 0 (by decide), hat 1 (by decide), hat 2 (by decide), hat 3 (by decide), hat 4 (by decide), hat 5 (by decide)⟩
theorem cnt_take (l : List Tok) (k : Nat) (h : k < l.length) : cnt (l.drop k) 0 = (if valB l[k].kind = true ∧ ¬ (l[k].kind = 12 ∧ hdK (l.drop (k + 1)) 0 = 6) then 1 else 0) + cnt (l.drop (k + 1)) 0 := by
  rw [List.drop_eq_getElem_cons h, cnt]
theorem hd_drop (l : List Tok) (k : Nat) : hdK (l.drop k) 0 = if h : k < l.length then l[k].kind else 0 := by
  by_cases h : k < l.length
  · rw [dif_pos h, List.drop_eq_getElem_cons h]; rfl
  · rw [dif_neg h, List.drop_eq_nil_of_le (by omega)]; rfl
set_option maxHeartbeats 16000000 in
set_option maxRecDepth 100000 in
theorem may_short (s : List UInt8) (hs : s.length ≤ 800) (s0 : List UInt8) (hs0 : s0.length ≤ 9223372036854775807) (hsd : s = s0.take 800) (w : World) (hW : WP w w) : Calls Tryz.prog 6 #[strV s0] w fun e w' => e = .returned (.bool true) ∧ Below w.heap.size w w' := by
  have HS := Lib.hid (fun (W : World) => short_any s0 800 hs0 (by decide) W)
  have HSD := Lib.hid hsd
  have HP := Lib.hid (fun (W : World) (hB : Below w.heap.size w W) => (parse_is s (parM s).1 (parM s).2.1 (parM s).2.2 rfl w W (by omega) ⟨hB, hW.g.below hB hW.gw, hW.gw⟩))
  have HN := Lib.hid (fun (h : (parM s).2.2 ≠ 0) => par_no (by omega) h)
  have HY := Lib.hid (fun (h : (parM s).2.2 = 0) => par_yes (by omega) h)
  have HALL := Lib.hid (fun (W : World) (hB : Below w.heap.size w W) => all_any s W (hW.g.below hB hW.gw) (hW.gw.mono hB.size) (by omega))
  have HW := Lib.hid hW
  generalize parM s = r at *
  obtain ⟨T, at_, e⟩ := r
  dsimp only at HP HN HY
  clear hsd hW
  have hslen : (⟨s.toArray⟩ : ByteArray).size = s.length := by simp [ByteArray.size]
  go_enter Tryz.func6, Tryz.ntmps6
  go_wp2_with fail
  refine (HS.out _).mono ?_
  rintro o w1 ⟨rfl, rfl⟩
  rw [← HSD.out]
  clear HS HSD
  unfold strV
  go_wp2_with fail
  refine (HP.out _ (Below.refl _ _)).mono ?_
  rintro o w1 ⟨x0, x1, x2, x3, x4, x5, rfl, ⟨bs, hN, hnd, hge⟩, hb1⟩
  obtain ⟨kd1, nn1, uu1, s1, B1, n1, d1, B2, n2, d2, rfl, rfl, rfl, rfl, rfl, rfl⟩ := hN.form2
  have HB := Lib.hid hb1
  have hsz1 := hb1.size
  have HNR := Lib.hid (And.intro hN hnd)
  clear hb1 hN hnd hge HP
  by_cases he : e = 0
  · subst he
    obtain ⟨hat, ⟨l, hall, hcnt⟩, hchk, hwf, hz, hdp⟩ := HY.out rfl
    subst hat
    clear HN HY
    have hba := Below.alloc (Below.refl w1.heap.size w1) (Nat.le_refl _) (.cells #[.int .i64 kd1, .int .i64 nn1, .int .u64 uu1, .string s1, .slice B1 n1 d1, .slice B2 n2 d2] 27)
    have hnode : (w1.alloc (.cells #[.int .i64 kd1, .int .i64 nn1, .int .u64 uu1, .string s1, .slice B1 n1 d1, .slice B2 n2 d2] 27)).heap[w1.heap.size]? = some (.cells #[.int .i64 kd1, .int .i64 nn1, .int .u64 uu1, .string s1, .slice B1 n1 d1, .slice B2 n2 d2] 27 (0, 0)) := heap_alloc_new w1 _
    have HA := Lib.hid (HALL.out _ ((HB.out).trans (hba.mono hsz1)))
    rw [hall] at HA
    have HBA := Lib.hid hba
    have HNO := Lib.hid hnode
    have HCNT := Lib.hid (And.intro hcnt (And.intro hchk (And.intro hwf (And.intro hz hdp))))
    clear hba hnode HALL hall hcnt hchk hwf hz hdp
    go_wp2_with fail
    refine HA.out.mono ?_
    rintro o w2 ⟨v, rfl, hT2, hb2⟩
    obtain ⟨A2, c2, rfl⟩ := owns_ptr hT2
    have hb02 : Below w.heap.size w w2 := (HB.out.trans (HBA.out.mono hsz1)).trans (hb2.mono (by rw [World.size_alloc]; omega))
    have hN2 := (HNR.out.1.below HBA.out).below hb2
    have hbox := (hb2.block w1.heap.size (by simp)).trans HNO.out
    have hlen1 : l.length ≤ 9223372036854775807 := row_bound hT2
    have hltB : w1.heap.size < w2.heap.size := (Array.getElem?_eq_some_iff.1 hbox).1
    have H2 := Lib.hid (And.intro hb02 (And.intro hN2 (And.intro hbox hT2)))
    clear hb02 hN2 hbox hT2 HA HBA HNO HB hb2
    dsimp only
    go_wp2_with fail
    go_loopw [9, 10] (fun mn i wr => ∃ j : Nat, i = .int .i64 j ∧ j ≤ l.length ∧ wr = w2 ∧ ∃ m : Int, mn = .int .i64 m ∧ 0 ≤ m ∧ m ≤ j ∧ m + cnt (l.drop j) 0 = cnt l 0) (fun _ i _ => l.length - (intOf i).toNat)
    case atStart => exact ⟨0, rfl, Nat.zero_le _, rfl, 0, rfl, by omega, by omega, by rw [List.drop_zero]; omega⟩
    case round =>
      obtain ⟨j, rfl, hj, rfl, m, rfl, hm0, hmj, hm⟩ := hrel
      by_cases hlt : j < l.length
      · have hltz : (j : Int) < (l.length : Int) := by omega
        have hget : l[j]? = some l[j] := List.getElem?_eq_getElem hlt
        have hstep := cnt_take l j hlt
        rw [hd_drop] at hstep
        have HM := Lib.hid hm
        clear hm
        generalize l[j] = tt at *
        obtain ⟨K, r1, r2, r3, r4, r5⟩ := tt
        dsimp only at hstep
        obtain ⟨g, rfl, hc1, hc2, hgz, k0, -⟩ := row_tok H2.out.2.2.2 hget
        have hc3 : l.length ≤ 9223372036854775807 := hlen1
        have q1 : IntKind.i64.wrap ((j : Int) + 1) = j + 1 := IntWalk.i64_in _ (by omega)
        have q2 : IntKind.i64.wrap (m + 1) = m + 1 := IntWalk.i64_in _ (by omega)
        clear hget
        by_cases h12 : K = 12
        · subst h12
          by_cases hlt1 : j + 1 < l.length
          · have hlt1z : (j : Int) + 1 < (l.length : Int) := by omega
            have hget1 : l[j + 1]? = some l[j + 1] := List.getElem?_eq_getElem hlt1
            rw [dif_pos hlt1] at hstep
            generalize l[j + 1] = t2 at *
            obtain ⟨N, p1, p2, p3, p4, p5⟩ := t2
            dsimp only at hstep
            obtain ⟨g', hg', -, -, -, n0, -⟩ := row_tok H2.out.2.2.2 hget1
            cases hg'
            clear hget1
            by_cases h6 : N = 6
            · subst h6
              have hcond : ¬ (valB 12 = true ∧ ¬ ((12 : Int) = 12 ∧ (6 : Int) = 6)) := by decide
              have HST := Lib.hid hstep
              have HC := Lib.hid hcond
              clear hstep hcond
              go_wp2_with fail
              go_roundw
              case rel => exact ⟨j + 1, by go_num, by omega, trivial, m, rfl, by omega, by omega, by have := HM.out; have hstep := HST.out; have hcond := HC.out; rw [if_neg (by first | exact hcond)] at hstep; omega⟩
              case measure => simp only [intOf]; omega
            · have h6b : (N == 6) = false := by simp [h6]
              have hcond : valB 12 = true ∧ ¬ ((12 : Int) = 12 ∧ N = 6) := ⟨by decide, fun h => h6 h.2⟩
              have HST := Lib.hid hstep
              have HC := Lib.hid hcond
              clear hstep hcond
              go_wp2_with fail
              go_roundw
              case rel => exact ⟨j + 1, by go_num, by omega, trivial, m + 1, by go_num, by omega, by omega, by have := HM.out; have hstep := HST.out; have hcond := HC.out; rw [if_pos (by first | exact hcond)] at hstep; omega⟩
              case measure => simp only [intOf]; omega
          · have hlt1z : ¬ (j : Int) + 1 < (l.length : Int) := by omega
            rw [dif_neg hlt1] at hstep
            have hcond : valB 12 = true ∧ ¬ ((12 : Int) = 12 ∧ (0 : Int) = 6) := by decide
            have HST := Lib.hid hstep
            have HC := Lib.hid hcond
            clear hstep hcond
            go_wp2_with fail
            go_roundw
            case rel => exact ⟨j + 1, by go_num, by omega, trivial, m + 1, by go_num, by omega, by omega, by have := HM.out; have hstep := HST.out; have hcond := HC.out; rw [if_pos (by first | exact hcond)] at hstep; omega⟩
            case measure => simp only [intOf]; omega
        · have h12b : (K == 12) = false := by simp [h12]
          by_cases h7 : (7 : Int) ≤ K
          · have h7b : decide (K ≥ 7) = true := by simpa using h7
            have hcond : valB K = true ∧ ¬ (K = 12 ∧ (if h : j + 1 < l.length then l[j + 1].kind else 0) = 6) := ⟨by simp [valB, h7], fun h => h12 h.1⟩
            have HST := Lib.hid hstep
            have HC := Lib.hid hcond
            clear hstep hcond
            go_wp2_with fail
            go_roundw
            case rel => exact ⟨j + 1, by go_num, by omega, trivial, m + 1, by go_num, by omega, by omega, by have := HM.out; have hstep := HST.out; have hcond := HC.out; rw [if_pos (by first | exact hcond)] at hstep; omega⟩
            case measure => simp only [intOf]; omega
          · by_cases h1 : K = 1
            · subst h1
              have hcond : valB 1 = true ∧ ¬ ((1 : Int) = 12 ∧ (if h : j + 1 < l.length then l[j + 1].kind else 0) = 6) := ⟨by decide, fun h => by cases h.1⟩
              have HST := Lib.hid hstep
              have HC := Lib.hid hcond
              clear hstep hcond
              go_wp2_with fail
              go_roundw
              case rel => exact ⟨j + 1, by go_num, by omega, trivial, m + 1, by go_num, by omega, by omega, by have := HM.out; have hstep := HST.out; have hcond := HC.out; rw [if_pos (by first | exact hcond)] at hstep; omega⟩
              case measure => simp only [intOf]; omega
            · have h1b : (K == 1) = false := by simp [h1]
              by_cases h3 : K = 3
              · subst h3
                have hcond : valB 3 = true ∧ ¬ ((3 : Int) = 12 ∧ (if h : j + 1 < l.length then l[j + 1].kind else 0) = 6) := ⟨by decide, fun h => by cases h.1⟩
                have HST := Lib.hid hstep
                have HC := Lib.hid hcond
                clear hstep hcond
                go_wp2_with fail
                go_roundw
                case rel => exact ⟨j + 1, by go_num, by omega, trivial, m + 1, by go_num, by omega, by omega, by have := HM.out; have hstep := HST.out; have hcond := HC.out; rw [if_pos (by first | exact hcond)] at hstep; omega⟩
                case measure => simp only [intOf]; omega
              · have h3b : (K == 3) = false := by simp [h3]
                have hcond : ¬ (valB K = true ∧ ¬ (K = 12 ∧ (if h : j + 1 < l.length then l[j + 1].kind else 0) = 6)) := fun h => by have := h.1; simp only [valB, Bool.or_eq_true, decide_eq_true_eq] at this; omega
                have HST := Lib.hid hstep
                have HC := Lib.hid hcond
                clear hstep hcond
                go_wp2_with fail
                go_roundw
                case rel => exact ⟨j + 1, by go_num, by omega, trivial, m, rfl, by omega, by omega, by have := HM.out; have hstep := HST.out; have hcond := HC.out; rw [if_neg (by first | exact hcond)] at hstep; omega⟩
                case measure => simp only [intOf]; omega
      · have hltz : ¬ (j : Int) < (l.length : Int) := by omega
        have hje : j = l.length := by omega
        rw [hje, List.drop_length] at hm
        have hc0 : cnt [] 0 = 0 := rfl
        have hms : m = sizeD T := by have := HCNT.out.1; omega
        obtain ⟨hb02, hN2, hbox, -⟩ := H2.out
        obtain ⟨y0, y1, y2, y3, y4, y5⟩ := cells6 hbox
        have HW2 := Lib.hid (HW.out.next hb02)
        have HN2 := Lib.hid hN2
        have HMS := Lib.hid hms
        clear hb02 hN2 hbox hm hc0 hms H2 HNR hje hj
        go_wp2_with fail
        refine (tcheck_any T _ _ _ _ _ _ bs _ HN2.out HCNT.out.2.2.1 (by have := HCNT.out.2.2.2.1; omega)).mono ?_
        rintro o w3 ⟨rfl, hb3⟩
        rw [HCNT.out.2.1]
        have HW3 := Lib.hid (HW2.out.next hb3)
        have HN3 := Lib.hid (HN2.out.below hb3)
        have z0 := (hb3.cell (p := ⟨w1.heap.size, 0, none⟩) hltB).trans y0
        have z1 := (hb3.cell (p := ⟨w1.heap.size, 1, none⟩) hltB).trans y1
        have z2 := (hb3.cell (p := ⟨w1.heap.size, 2, none⟩) hltB).trans y2
        have z3 := (hb3.cell (p := ⟨w1.heap.size, 3, none⟩) hltB).trans y3
        have z4 := (hb3.cell (p := ⟨w1.heap.size, 4, none⟩) hltB).trans y4
        have z5 := (hb3.cell (p := ⟨w1.heap.size, 5, none⟩) hltB).trans y5
        clear hb3 y0 y1 y2 y3 y4 y5 HW2 HN2
        go_wp2_with fail
        refine (size_any T _ _ _ _ _ _ bs _ HN3.out (by have := HCNT.out.2.2.2.1; omega) (by have := HCNT.out.2.2.2.2; omega)).mono ?_
        rintro o w4 ⟨rfl, hb4⟩
        rw [← HMS.out]
        have hmm : (m == m) = true := by simp
        have HW4 := Lib.hid (HW3.out.next hb4)
        clear hb4 z0 z1 z2 z3 z4 z5 HW3 HN3
        go_wp2_with fail
        refine (works_any w _ HW4.out).mono ?_
        rintro e w5 ⟨rfl, h5⟩
        have H5 := Lib.hid h5
        clear h5
        go_wp2_with fail
        go_returns
        exact ⟨rfl, H5.out.b⟩
  · have hne : (e != 0) = true := by simp [he]
    obtain ⟨rfl, a0, a1⟩ := HN.out he
    clear HN HY HALL he
    have HR1 := Lib.hid (HNR.out.1.reads)
    have HR2 := Lib.hid (zero_reads w1)
    clear HNR
    have g0 : decide ((0 : Int) ≤ at_) = true := by simp [a0]
    have g1 : decide (at_ ≤ (s.length : Int)) = true := by simp [a1]
    go_wp2_with fail
    refine (eqnodeR_true zeroD w1 _ _ _ _ _ _ _ _ _ _ _ _ _ zw HR1.out HR2.out).mono ?_
    rintro o w2 ⟨rfl, hb2⟩
    have HW2 := Lib.hid (HW.out.next (w1 := w2) (by have h1 := HB.out; exact zw))
    clear hb2
    go_wp2_with fail
    refine (works_any w _ HW2.out).mono ?_
    rintro o w3 ⟨rfl, h3⟩
    have H3 := Lib.hid h3
    clear h3
    go_wp2_with fail
    go_returns
    exact ⟨rfl, H3.out.b⟩
theorem may_any (s : List UInt8) (hs : s.length ≤ 9223372036854775807) (w : World) (hG : Glb w) (hB : Gb w.heap.size) : Calls Tryz.prog 6 #[strV s] w fun e w' => e = .returned (.bool true) ∧ Below w.heap.size w w' :=
  may_short (s.take 800) (by rw [List.length_take]; omega) s hs rfl w (WP.refl hG hB)
end
end Go.Proofs.YtccmhhmdenfecaaGreatDoor
