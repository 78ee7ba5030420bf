/- The walk of accordionref10.Next: written by wip/gen/nf.py. -/
import Derived.Test.YtgdhepoffnpgiaaGreatDoorNb
import Derived.Test.YtgdhepoffnpgiaaGreatDoorLw
namespace Go.Proofs.YtgdhepoffnpgiaaGreatDoor
set_option linter.unusedVariables false
set_option linter.unusedSimpArgs false
open Go.RowKit Go.Shelf
theorem blanks_cons {l : List UInt8} {k : Nat} (hk : k < l.length) : blanksN (l.drop k) = if blankB (l.getD k 0) = true then blanksN (l.drop (k + 1)) + 1 else 0 := by
  have e : l.drop k = l.getD k 0 :: l.drop (k + 1) := by
    rw [List.drop_eq_getElem_cons hk, List.getD_eq_getElem?_getD, List.getElem?_eq_getElem hk]; rfl
  rw [e]
  unfold blanksN
  rw [List.takeWhile_cons]
  split
  · rw [List.length_cons]
  · rfl
theorem blank_one (l : List UInt8) (k : Nat) : oneB l [32, 9, 10, 13] k = (decide (k < l.length) && blankB (l.getD k 0)) := by
  unfold oneB
  rw [blank_contains]
theorem rnext_at (l : List UInt8) (a : Nat) (ha : a ≤ l.length) : nextM l a = tokM (l.drop (a + blanksN (l.drop a))) ((a + blanksN (l.drop a) : Nat) : Int) := by
  unfold nextM
  rw [if_neg (by omega), Int.toNat_natCast, List.drop_drop]
  congr 1
theorem NR.start (w : World) : NR w (w.alloc (.cells #[.int .i64 0, .int .i64 0, .int .i64 0, .int .i64 0, .int .u64 0, .string .empty] 39 (0, 0))) := ⟨(Below.refl _ w).alloc (Nat.le_refl _) _, by simp, heap_alloc_new _ _⟩
def marks : List UInt8 := [123, 125, 91, 93, 44, 58]
theorem mark_tok (c : UInt8) (t : List UInt8) (k j : Nat) (hj : j < 6) (h : c = marks.getD j 0) : tokM (c :: t) (k : Int) = (⟨1 + (j : Int), (k : Int), (k : Int) + 1, 0, 0, []⟩, 0) := by
  subst h
  have : j = 0 ∨ j = 1 ∨ j = 2 ∨ j = 3 ∨ j = 4 ∨ j = 5 := by omega
  rcases this with rfl | rfl | rfl | rfl | rfl | rfl <;> simp [marks, tokM, spellW, wordM, commonN]
theorem mark_idx {j : Nat} (hj : j < 6) (h : j < (⟨#[123, 125, 91, 93, 44, 58]⟩ : ByteArray).size) : (⟨#[123, 125, 91, 93, 44, 58]⟩ : ByteArray)[j]'h = marks.getD j 0 := by
  show (#[123, 125, 91, 93, 44, 58] : Array UInt8)[j]'h = _
  have : j = 0 ∨ j = 1 ∨ j = 2 ∨ j = 3 ∨ j = 4 ∨ j = 5 := by omega
  rcases this with rfl | rfl | rfl | rfl | rfl | rfl <;> rfl
def wds : List (List UInt8) := [[110, 117, 108, 108], [102, 97, 108, 115, 101], [116, 114, 117, 101]]
/-- NR, and the list of words in a block of its own. -/
structure NW (w : World) (S : Nat) (wn : World) : Prop where
  n : NR w wn
  z : S < wn.heap.size
  o : wn.heap[S]? = some (.cells #[.string ⟨#[110, 117, 108, 108]⟩, .string ⟨#[102, 97, 108, 115, 101]⟩, .string ⟨#[116, 114, 117, 101]⟩] 9 (0, 0))
theorem NW.quiet {w wn w1 : World} {S : Nat} (h : NW w S wn) (hb : Below wn.heap.size wn w1) : NW w S w1 := ⟨h.n.quiet hb, Nat.lt_of_lt_of_le h.z hb.size, (hb.block _ h.z).trans h.o⟩
theorem NW.cell {w wn : World} {S : Nat} (h : NW w S wn) {j : Nat} (hj : j < 3) : wn.cell? ⟨S, j, none⟩ = some (.string ⟨(wds.getD j []).toArray⟩) := by
  rw [Lib.cell_of_heap h.o]
  have : j = 0 ∨ j = 1 ∨ j = 2 := by omega
  rcases this with rfl | rfl | rfl <;> rfl
theorem wd_facts {j : Nat} (hj : j < 3) (c : UInt8) : 0 < (wds.getD j []).length ∧ (wds.getD j []).length ≤ 5 ∧ (c = (wds.getD j []).getD 0 0 → spellW c = some (wds.getD j [], 7 + (j : Int))) := by
  have : j = 0 ∨ j = 1 ∨ j = 2 := by omega
  rcases this with rfl | rfl | rfl
  all_goals
    refine ⟨by decide, by decide, ?_⟩
    rintro rfl
    decide
theorem spell_none {c : UInt8} (h1 : ∀ i, i < 6 → c ≠ marks.getD i 0) (h2 : ∀ i, i < 3 → c ≠ (wds.getD i []).getD 0 0) : spellW c = none := by
  unfold spellW
  rw [if_neg (show ¬ c = 123 from h1 0 (by omega)), if_neg (show ¬ c = 125 from h1 1 (by omega)), if_neg (show ¬ c = 91 from h1 2 (by omega)), if_neg (show ¬ c = 93 from h1 3 (by omega)), if_neg (show ¬ c = 44 from h1 4 (by omega)), if_neg (show ¬ c = 58 from h1 5 (by omega)), if_neg (show ¬ c = 110 from h2 0 (by omega)), if_neg (show ¬ c = 102 from h2 1 (by omega)), if_neg (show ¬ c = 116 from h2 2 (by omega))]
theorem one_slice {x : List UInt8} {m : Nat} (hm : m < x.length) (W : World) : (Instr.slice 9 (.string ⟨x.toArray⟩) (some (.int .i64 m)) (some (.int .i64 ((m : Int) + 1))) none).run Tryz.prog W = .ok (.string ⟨[x.getD m 0].toArray⟩) W := by
  have h := subr_run x m (m + 1) (by omega) (by omega) W
  rw [show ((m + 1 : Nat) : Int) = (m : Int) + 1 from rfl] at h
  rw [h]
  have e : (x.drop m).take (m + 1 - m) = [x.getD m 0] := by
    rw [Nat.add_sub_cancel_left, List.drop_eq_getElem_cons hm, List.take_succ_cons, List.take_zero, List.getD_eq_getElem?_getD, List.getElem?_eq_getElem hm]
    rfl
  rw [e]
set_option maxHeartbeats 16000000 in
set_option maxRecDepth 100000 in
theorem rnext_range (l : List UInt8) (a : Int) (w : World) (hl : l.length ≤ 1073741824) (ha : a < 0 ∨ l.length < a) :
    Calls Tryz.prog 12 #[strV l, .int .i64 a] w fun o w' => o = .returned (trV (nextM l a)) ∧ Below w.heap.size w w' := by
  have hs : (⟨l.toArray⟩ : ByteArray).size = l.length := by simp [ByteArray.size]
  obtain ⟨res, hres⟩ : ∃ r, r = nextM l a := ⟨_, rfl⟩
  rw [← hres]
  have HR := Lib.hid (show res = wrongT 0 6 by rw [hres]; unfold nextM; rw [if_pos ha])
  clear hres
  unfold strV
  rcases Int.lt_or_le a 0 with h0 | h0
  case' inl => clear ha
  case' inr =>
    have h1 : (l.length : Int) < a := by omega
    have h0' : ¬ a < 0 := by omega
    clear ha
  all_goals
    go_enter Tryz.func12, Tryz.ntmps12
    go_upto_region 2 with fail
    refine wp_namedR (NR w) (NR.start w) ?_
    rintro wn hN
    have HN := Lib.hid hN
    clear hN
    go_wp2_with fail
    refine (HN.out.wrong _ _).mono ?_
    rintro o w9 ⟨rfl, hN9⟩
    clear HN
    obtain ⟨n0, n1, n2, n3, n4, n5, hfz⟩ := hN9.o.cells
    have f0 := hfz 0
    have f1 := hfz 1
    have f2 := hfz 2
    have f3 := hfz 3
    have f4 := hfz 4
    have f5 := hfz 5
    have H9 := Lib.hid hN9
    clear hN9 hfz
    go_wp2_with fail
    refine bodyPost_ret (v := trV (wrongT 0 6)) (by simp [results, Tryz.results12, go_sem, trV, tokV, strV, wrongT, *]) rfl ?_
    exact ⟨by rw [HR.out], setR H9.out.b (Nat.le_refl _) _ _ _ _ _ _⟩
set_option maxHeartbeats 16000000 in
set_option maxRecDepth 100000 in
theorem rnext_in (HU : Hid (∀ (s : List UInt8) (W : World), s.length ≤ 1073741824 → Calls Tryz.prog 33 #[strV s] W fun o w' => o = .returned (.tuple #[strV (unqM s).1, .int .i64 (unqM s).2.1, .int .i64 (unqM s).2.2.1, .int .i64 (unqM s).2.2.2]) ∧ Below W.heap.size W w'))
    (l : List UInt8) (a : Nat) (w : World) (hl : l.length ≤ 1073741824) (ha : a ≤ l.length) :
    Calls Tryz.prog 12 #[strV l, .int .i64 a] w fun o w' => o = .returned (trV (nextM l a)) ∧ Below w.heap.size w w' := by
  have hs : (⟨l.toArray⟩ : ByteArray).size = l.length := by simp [ByteArray.size]
  obtain ⟨res, hres⟩ : ∃ r, r = nextM l a := ⟨_, rfl⟩
  rw [← hres]
  obtain ⟨q, hq⟩ : ∃ q, q = a + blanksN (l.drop a) := ⟨_, rfl⟩
  have HRS := Lib.hid (show res = tokM (l.drop q) q by rw [hres, rnext_at l a ha, hq])
  have HQ := Lib.hid hq.symm
  clear hres hq
  have ha0 : ¬ (a : Int) < 0 := by omega
  have ha1 : ¬ (l.length : Int) < (a : Int) := by omega
  unfold strV
  go_enter Tryz.func12, Tryz.ntmps12
  go_wp2_with fail
  go_loopw [1] (fun i wr => ∃ k : Nat, i = .int .i64 k ∧ k ≤ l.length ∧ NR w wr ∧ Hid (k + blanksN (l.drop k) = q)) (fun i _ => l.length - (intOf i).toNat)
  case atStart => exact ⟨a, rfl, ha, NR.start w, HQ⟩
  case round =>
    clear HQ ha0 ha1 ha
    obtain ⟨k, rfl, hk, hN, hq⟩ := hrel
    cases hb : oneB l [32, 9, 10, 13] k
    case true =>
      have hlt := one_lt hb
      have HD := Lib.hid (show k + 1 + blanksN (l.drop (k + 1)) = q by
        rw [← hq.out, blanks_cons hlt]
        rw [blank_one] at hb
        simp only [Bool.and_eq_true, decide_eq_true_eq] at hb
        rw [if_pos hb.2]
        omega)
      have q1 : IntKind.i64.wrap ((k : Int) + 1) = k + 1 := IntWalk.i64_in _ (by omega)
      have HI := Lib.hid (hN.yes hb hl (by decide) (by omega))
      unfold strV at HI
      clear hN hb hq
      go_wp2_with fail
      refine HI.out.mono ?_
      rintro e w1 ⟨rfl, hN1⟩
      clear HI
      have HN1 := Lib.hid hN1
      clear hN1
      go_wp2_with fail
      go_roundw
      case rel => exact ⟨k + 1, by go_num, by omega, HN1.out, HD⟩
      case measure => simp only [intOf]; omega
    case false =>
      have HI := Lib.hid (hN.no hb hl (by decide) (by omega))
      unfold strV at HI
      by_cases hend : k = l.length
      · have HR := Lib.hid (show res = (⟨0, (k : Int), (k : Int), 0, 0, []⟩, 0) by
          have h0 : k = q := by rw [← hq.out, List.drop_of_length_le (by omega)]; rfl
          rw [HRS.out, ← h0, List.drop_of_length_le (by omega)]
          rfl)
        have hez : ((k : Int) == (l.length : Int)) = true := by simp; omega
        clear hN hb hq hend HRS
        go_wp2_with fail
        refine HI.out.mono ?_
        rintro e w1 ⟨rfl, hN9⟩
        clear HI
        obtain ⟨n0, n1, n2, n3, n4, n5, hfz⟩ := hN9.o.cells
        have f0 := hfz 0
        have f1 := hfz 1
        have f2 := hfz 2
        have f3 := hfz 3
        have f4 := hfz 4
        have f5 := hfz 5
        have H9 := Lib.hid hN9
        clear hN9 hfz
        go_wp2_with fail
        refine bodyPost_ret (v := trV ((⟨0, (k : Int), (k : Int), 0, 0, []⟩, 0))) (by simp [results, Tryz.results12, go_sem, trV, tokV, strV, wrongT, *]) rfl ?_
        exact ⟨by rw [HR.out], setR H9.out.b (Nat.le_refl _) _ _ _ _ _ _⟩
      have hez : ((k : Int) == (l.length : Int)) = false := by simp; omega
      have hlt : k < l.length := by omega
      have hidx : (⟨l.toArray⟩ : ByteArray)[k]'(by omega) = l.getD k 0 := by
        show l.toArray[k] = _
        simp [List.getD_eq_getElem?_getD, hlt]
      obtain ⟨c, t, hct⟩ : ∃ c t, l.drop k = c :: t := ⟨_, _, List.drop_eq_getElem_cons hlt⟩
      have hcg : l.getD k 0 = c := by
        have := List.drop_eq_getElem_cons hlt
        rw [this] at hct
        obtain ⟨rfl, -⟩ := List.cons.inj hct
        simp [List.getD_eq_getElem?_getD, hlt]
      rw [hcg] at hidx
      have HT := Lib.hid (show res = tokM (c :: t) k by
        have h0 : k = q := by
          rw [← hq.out, blanks_cons hlt]
          rw [blank_one] at hb
          simp only [hlt, decide_true, Bool.true_and] at hb
          rw [hb]
          rfl
        rw [HRS.out, ← h0, hct])
      have HC := Lib.hid hct
      have HG := Lib.hid hcg
      clear hN hb hq hend HRS hct hcg
      go_wp2_with fail
      refine HI.out.mono ?_
      rintro e w1 ⟨rfl, hN1⟩
      clear HI
      have HN1 := Lib.hid hN1
      clear hN1
      have hmz : (⟨#[123, 125, 91, 93, 44, 58]⟩ : ByteArray).size = 6 := rfl
      go_wp2_with fail
      go_loopw [6] (fun i wr => ∃ j : Nat, i = .int .i64 j ∧ j ≤ 6 ∧ NR w wr ∧ Hid (∀ i, i < j → c ≠ marks.getD i 0)) (fun i _ => 6 - (intOf i).toNat)
      case atStart => exact ⟨0, rfl, by omega, HN1.out, Lib.hid (fun i h => by omega)⟩
      case round =>
        clear HN1
        obtain ⟨j, rfl, hj, hN, hm⟩ := hrel
        by_cases hj6 : j < 6
        · have hjz : (j : Int) < 6 := by omega
          have hidx2 := mark_idx hj6 (by omega)
          have q1 : IntKind.i64.wrap ((j : Int) + 1) = j + 1 := IntWalk.i64_in _ (by omega)
          by_cases hc : c = marks.getD j 0
          · have hcz : ((c.toNat : Int) == ((marks.getD j 0).toNat : Int)) = true := by rw [← hc]; simp
            have q2 : IntKind.i64.wrap ((k : Int) + 1) = k + 1 := IntWalk.i64_in _ (by omega)
            have HR := Lib.hid (show res = (⟨(j : Int) + 1, (k : Int), (k : Int) + 1, 0, 0, []⟩, 0) by rw [HT.out, mark_tok c t k j hj6 hc, Int.add_comm])
            have HN := Lib.hid hN
            clear hN hc hm HT HC HG
            generalize marks.getD j 0 = d at *
            go_wp2_with fail
            go_quiet (fail)
            have hN9 := HN.out
            clear HN
            obtain ⟨n0, n1, n2, n3, n4, n5, hfz⟩ := hN9.o.cells
            have f0 := hfz 0
            have f1 := hfz 1
            have f2 := hfz 2
            have f3 := hfz 3
            have f4 := hfz 4
            have f5 := hfz 5
            have H9 := Lib.hid hN9
            clear hN9 hfz
            go_wp2_with fail
            refine bodyPost_ret (v := trV ((⟨(j : Int) + 1, (k : Int), (k : Int) + 1, 0, 0, []⟩, 0))) (by simp [results, Tryz.results12, go_sem, trV, tokV, strV, wrongT, *]) rfl ?_
            exact ⟨by rw [HR.out], setR (below_drewN H9.out.b _) (Nat.le_refl _) _ _ _ _ _ _⟩
          · have hcz : ((c.toNat : Int) == ((marks.getD j 0).toNat : Int)) = false := by
              simp only [beq_eq_false_iff_ne, ne_eq, Int.natCast_inj]
              exact fun e => hc (UInt8.toNat_inj.1 e)
            have HM := Lib.hid (show ∀ i, i < j + 1 → c ≠ marks.getD i 0 from fun i hi => by
              by_cases h : i = j
              · rw [h]; exact hc
              · exact hm.out i (by omega))
            have HN := Lib.hid hN
            clear hN hc hm
            generalize marks.getD j 0 = d at *
            go_wp2_with fail
            go_quiet (fail)
            go_wp2_with fail
            go_roundw
            case rel => exact ⟨j + 1, by go_num, by omega, HN.out.quiet (below_drewN (Below.refl _ _) _), HM⟩
            case measure => simp only [intOf]; omega
        · have hjz : ¬ (j : Int) < 6 := by omega
          have HM := Lib.hid (show ∀ i, i < 6 → c ≠ marks.getD i 0 from fun i hi => hm.out i (by omega))
          have HN := Lib.hid hN
          clear hN hm
          go_wp2_with fail
          go_loopw [8] (fun i wx => ∃ j : Nat, i = .int .i64 j ∧ j ≤ 3 ∧ NW w wr.heap.size wx ∧ Hid (∀ i, i < j → c ≠ (wds.getD i []).getD 0 0)) (fun i _ => 3 - (intOf i).toNat)
          case atStart => exact ⟨0, rfl, by omega, ⟨HN.out.quiet ((Below.refl _ _).alloc (Nat.le_refl _) _), by simp, heap_alloc_new _ _⟩, Lib.hid (fun i h => by omega)⟩
          case round =>
            generalize wr.heap.size = S at *
            clear HN hjz hj6 hj
            obtain ⟨y, rfl, hy, hN, hm⟩ := hrel
            by_cases hy3 : y < 3
            · have hyz : (y : Int) < 3 := by omega
              have kc := hN.cell hy3
              obtain ⟨hx0, hx5, hxs⟩ := wd_facts hy3 c
              have HX := Lib.hid hxs
              have HMe := Lib.hid (fun (h : c ≠ (wds.getD y []).getD 0 0) => show ∀ i, i < y + 1 → c ≠ (wds.getD i []).getD 0 0 from fun i hi => by
                by_cases e : i = y
                · rw [e]; exact h
                · exact hm.out i (by omega))
              have HN := Lib.hid hN
              clear hxs hN hm
              generalize wds.getD y [] = x at *
              have hsx : (⟨x.toArray⟩ : ByteArray).size = x.length := by simp [ByteArray.size]
              have hx0z : (0 : Int) < (x.length : Int) := by omega
              have hidx2 : (⟨x.toArray⟩ : ByteArray)[0]'(by omega) = x.getD 0 0 := by
                show x.toArray[0] = _
                simp [List.getD_eq_getElem?_getD, hx0]
              have q1 : IntKind.i64.wrap ((y : Int) + 1) = y + 1 := IntWalk.i64_in _ (by omega)
              by_cases hc : c = x.getD 0 0
              · have hcz : ((c.toNat : Int) == ((x.getD 0 0).toNat : Int)) = true := by rw [← hc]; simp
                have hnz : ((c.toNat : Int) != ((x.getD 0 0).toNat : Int)) = false := by rw [← hc]; simp
                have HT2 := Lib.hid (show res = wordM x (7 + (y : Int)) (l.drop k) k by rw [HT.out, HC.out, tokM, HX.out hc])
                clear HMe HX hc HT
                generalize x.getD 0 0 = d at *
                go_wp2_with fail
                go_quiet (fail)
                go_wp2_with fail
                have hcle := wcommon_le x (l.drop k)
                go_loopw [10] (fun i wx => ∃ m : Nat, i = .int .i64 m ∧ m ≤ commonN x (l.drop k) ∧ NR w wx) (fun i _ => x.length - (intOf i).toNat)
                case atStart => exact ⟨0, rfl, Nat.zero_le _, HN.out.n.quiet (below_drewN (Below.refl _ _) _)⟩
                case round =>
                  clear HN
                  obtain ⟨m, rfl, hm, hN⟩ := hrel
                  by_cases hmx : m < x.length
                  · have hmz : (m : Int) < (x.length : Int) := by omega
                    have how := one_word (l := l) (a := k) hm hmx
                    have hsl := fun W => one_slice hmx W
                    obtain ⟨km, hkm⟩ : ∃ z, z = k + m := ⟨_, rfl⟩
                    have q2 : IntKind.i64.wrap ((k : Int) + (m : Int)) = km := by rw [IntWalk.i64_in _ (by omega)]; omega
                    have q3 : IntKind.i64.wrap ((m : Int) + 1) = m + 1 := IntWalk.i64_in _ (by omega)
                    rw [← hkm] at how
                    by_cases hmc : m < commonN x (l.drop k)
                    · rw [decide_eq_true hmc] at how
                      have hkl := one_lt how
                      have HI := Lib.hid (hN.yes how hl (by simp) (by omega))
                      have HM4 := Lib.hid (show m + 1 ≤ commonN x (l.drop k) by omega)
                      unfold strV at HI
                      clear hN how hkm hm hmc
                      generalize x.getD m 0 = dm at *
                      go_wp2_with fail
                      refine HI.out.mono ?_
                      rintro e w4 ⟨rfl, hN4⟩
                      clear HI
                      have HN4 := Lib.hid hN4
                      clear hN4
                      go_wp2_with fail
                      go_roundw
                      case rel => exact ⟨m + 1, by go_num, HM4.out, HN4.out⟩
                      case measure =>
                        first
                          | (simp only [intOf]; omega)
                          | (simp [intOf]; omega)
                    · rw [decide_eq_false hmc] at how
                      have HR := Lib.hid (show res = wrongT (km : Int) 100 by
                        rw [HT2.out]
                        unfold wordM
                        have : commonN x (l.drop k) = m := by omega
                        rw [this, if_neg (by omega), hkm]
                        rfl)
                      have HI := Lib.hid (hN.no how hl (by simp) (by omega))
                      unfold strV at HI
                      clear hN how hm hmc HT2 hkm
                      generalize x.getD m 0 = dm at *
                      go_wp2_with fail
                      refine HI.out.mono ?_
                      rintro e w4 ⟨rfl, hN⟩
                      clear HI
                      have HN := Lib.hid hN
                      clear hN
                      go_wp2_with fail
                      refine (HN.out.wrong _ _).mono ?_
                      rintro o w9 ⟨rfl, hN9⟩
                      clear HN
                      obtain ⟨n0, n1, n2, n3, n4, n5, hfz⟩ := hN9.o.cells
                      have f0 := hfz 0
                      have f1 := hfz 1
                      have f2 := hfz 2
                      have f3 := hfz 3
                      have f4 := hfz 4
                      have f5 := hfz 5
                      have H9 := Lib.hid hN9
                      clear hN9 hfz
                      go_wp2_with fail
                      refine bodyPost_ret (v := trV (wrongT (km : Int) 100)) (by simp [results, Tryz.results12, go_sem, trV, tokV, strV, wrongT, *]) rfl ?_
                      exact ⟨by rw [HR.out], setR H9.out.b (Nat.le_refl _) _ _ _ _ _ _⟩
                  · have hmz : ¬ (m : Int) < (x.length : Int) := by omega
                    obtain ⟨kx, hkx⟩ : ∃ z, z = k + x.length := ⟨_, rfl⟩
                    have hxl : x.length ≤ (l.drop k).length := by
                      have h := wcommon_at x (l.drop k) (x.length - 1) (by omega) (by omega)
                      have := (h.1 (by omega)).1
                      omega
                    rw [List.length_drop] at hxl
                    have q2 : IntKind.i64.wrap ((k : Int) + (x.length : Int)) = kx := by rw [IntWalk.i64_in _ (by omega)]; omega
                    have q4 : IntKind.i64.wrap (7 + (y : Int)) = 7 + y := IntWalk.i64_in _ (by omega)
                    have HR := Lib.hid (show res = (⟨7 + (y : Int), (k : Int), (kx : Int), 0, 0, []⟩, 0) by
                      rw [HT2.out]
                      unfold wordM
                      rw [if_pos (by omega), hkx]
                      rfl)
                    have hN9 := hN
                    clear hN hm HT2 hkx hxl
                    obtain ⟨n0, n1, n2, n3, n4, n5, hfz⟩ := hN9.o.cells
                    have f0 := hfz 0
                    have f1 := hfz 1
                    have f2 := hfz 2
                    have f3 := hfz 3
                    have f4 := hfz 4
                    have f5 := hfz 5
                    have H9 := Lib.hid hN9
                    clear hN9 hfz
                    go_wp2_with fail
                    refine bodyPost_ret (v := trV ((⟨7 + (y : Int), (k : Int), (kx : Int), 0, 0, []⟩, 0))) (by simp [results, Tryz.results12, go_sem, trV, tokV, strV, wrongT, *]) rfl ?_
                    exact ⟨by rw [HR.out], setR H9.out.b (Nat.le_refl _) _ _ _ _ _ _⟩
              · have hcz : ((c.toNat : Int) == ((x.getD 0 0).toNat : Int)) = false := by
                  simp only [beq_eq_false_iff_ne, ne_eq, Int.natCast_inj]
                  exact fun e => hc (UInt8.toNat_inj.1 e)
                have HM3 := Lib.hid (HMe.out hc)
                clear HMe HX hc
                generalize x.getD 0 0 = d at *
                go_wp2_with fail
                go_quiet (fail)
                go_wp2_with fail
                go_roundw
                case rel => exact ⟨y + 1, by go_num, by omega, HN.out.quiet (below_drewN (Below.refl _ _) _), HM3⟩
                case measure => simp only [intOf]; omega
            · have hyz : ¬ (y : Int) < 3 := by omega
              have HS := Lib.hid (spell_none HM.out (fun i hi => hm.out i (by omega)))
              have hN0 := hN.n
              clear hN hm HM
              have HT2 := Lib.hid (show res = if c = 34 then litM (l.drop k) k else if c = 45 ∨ digB c = true then numM (l.drop k) k else wrongT k 100 by rw [HT.out, HC.out, tokM, HS.out])
              have hnum : oneB l [45, 48, 49, 50, 51, 52, 53, 54, 55, 56, 57] k = decide (c = 45 ∨ digB c = true) := by
                unfold oneB
                rw [HG.out, decide_eq_true hlt, Bool.true_and]
                have hall : ∀ n : Fin 256, [45, 48, 49, 50, 51, 52, 53, 54, 55, 56, 57].contains (UInt8.ofNat n.val) = decide (UInt8.ofNat n.val = 45 ∨ digB (UInt8.ofNat n.val) = true) := by decide +kernel
                have := hall ⟨c.toNat, c.toNat_lt⟩
                simpa using this
              by_cases hcn : c = 45 ∨ digB c = true
              · rw [decide_eq_true hcn] at hnum
                have HR := Lib.hid (show res = numS l k by
                  have h34 : ¬ c = 34 := by rintro rfl; revert hcn; decide
                  rw [HT2.out, if_neg h34, if_pos hcn, numS_eq])
                have HI := Lib.hid (hN0.yes hnum hl (by decide) (by omega))
                unfold strV at HI
                clear hN0 hnum hcn HT2 HS HG HC HT
                go_wp2_with fail
                refine HI.out.mono ?_
                rintro e w4 ⟨rfl, hN⟩
                clear HI
                have HN := Lib.hid hN
                clear hN
                have HNU := Lib.hid (fun W => rnumber_any l k W hl hk)
                unfold strV at HNU
                go_wp2_with fail
                refine (HNU.out _).mono ?_
                rintro o w9 ⟨rfl, hb9⟩
                have hN9 := HN.out.quiet hb9
                clear HN HNU hb9
                generalize numS l k = tr at *
                obtain ⟨tk, te⟩ := tr
                simp only [trV, tokV, strV]
                obtain ⟨n0, n1, n2, n3, n4, n5, hfz⟩ := hN9.o.cells
                have f0 := hfz 0
                have f1 := hfz 1
                have f2 := hfz 2
                have f3 := hfz 3
                have f4 := hfz 4
                have f5 := hfz 5
                have H9 := Lib.hid hN9
                clear hN9 hfz
                go_wp2_with fail
                refine bodyPost_ret (v := trV ((tk, te))) (by simp [results, Tryz.results12, go_sem, trV, tokV, strV, wrongT, *]) rfl ?_
                exact ⟨by rw [HR.out], setR H9.out.b (Nat.le_refl _) _ _ _ _ _ _⟩
              · rw [decide_eq_false hcn] at hnum
                have HI := Lib.hid (hN0.no hnum hl (by decide) (by omega))
                unfold strV at HI
                by_cases h34 : c = 34
                · have hc34 : ((c.toNat : Int) == 34) = true := by rw [h34]; rfl
                  have hz34 : c.toNat = 34 := by rw [h34]; rfl
                  have HL := Lib.hid (show res = litM (l.drop k) k by rw [HT2.out, if_pos h34])
                  have HV := Lib.hid (fun W => HU.out (l.drop k) W (by rw [List.length_drop]; omega))
                  have hbd := unq_bd (l.drop k)
                  rw [List.length_drop] at hbd
                  have hsf := fun W => sub_from l k hk W
                  unfold litM at HL
                  unfold strV at HV
                  clear hN0 hnum hcn HT2 HS HG HC HT h34
                  generalize unqM (l.drop k) = un at *
                  obtain ⟨tx, n1, n2, er⟩ := un
                  dsimp only at hbd HL HV
                  obtain ⟨p2, hp2⟩ : ∃ z : Int, z = (k : Int) + n2 := ⟨_, rfl⟩
                  obtain ⟨p1, hp1⟩ : ∃ z : Int, z = (k : Int) + n1 := ⟨_, rfl⟩
                  have q1 : IntKind.i64.wrap ((k : Int) + n2) = p2 := by rw [hp2]; exact IntWalk.i64_in _ (by omega)
                  have q2 : IntKind.i64.wrap ((k : Int) + n1) = p1 := by rw [hp1]; exact IntWalk.i64_in _ (by omega)
                  rw [← hp1, ← hp2] at HL
                  clear hp1 hp2 hbd
                  by_cases her : er = 0
                  · have HR := Lib.hid (show res = (⟨12, (k : Int), p1, 0, 0, tx⟩, 0) by rw [HL.out, if_neg (by simp [her])])
                    have hez2 : (er == 0) = true := by simp [her]
                    clear HL her
                    go_wp2_with fail
                    refine HI.out.mono ?_
                    rintro e w4 ⟨rfl, hN⟩
                    clear HI
                    have HN := Lib.hid hN
                    clear hN
                    go_wp2_with fail
                    refine (HV.out _).mono ?_
                    rintro o w9 ⟨rfl, hb9⟩
                    have hN9 := HN.out.quiet hb9
                    clear HN HV hb9
                    obtain ⟨n0, n1, n2, n3, n4, n5, hfz⟩ := hN9.o.cells
                    have f0 := hfz 0
                    have f1 := hfz 1
                    have f2 := hfz 2
                    have f3 := hfz 3
                    have f4 := hfz 4
                    have f5 := hfz 5
                    have H9 := Lib.hid hN9
                    clear hN9 hfz
                    go_wp2_with fail
                    refine bodyPost_ret (v := trV ((⟨12, (k : Int), p1, 0, 0, tx⟩, 0))) (by simp [results, Tryz.results12, go_sem, trV, tokV, strV, wrongT, *]) rfl ?_
                    exact ⟨by rw [HR.out], setR H9.out.b (Nat.le_refl _) _ _ _ _ _ _⟩
                  · have HR := Lib.hid (show res = wrongT p2 er by rw [HL.out, if_pos her])
                    have hez2 : (er == 0) = false := by simp [her]
                    clear HL her
                    go_wp2_with fail
                    refine HI.out.mono ?_
                    rintro e w4 ⟨rfl, hN⟩
                    clear HI
                    have HN := Lib.hid hN
                    clear hN
                    go_wp2_with fail
                    refine (HV.out _).mono ?_
                    rintro o w8 ⟨rfl, hb8⟩
                    have HN8 := Lib.hid (HN.out.quiet hb8)
                    clear HN HV hb8
                    go_wp2_with fail
                    refine (HN8.out.wrong _ _).mono ?_
                    rintro o w9 ⟨rfl, hN9⟩
                    clear HN8
                    obtain ⟨n0, n1, n2, n3, n4, n5, hfz⟩ := hN9.o.cells
                    have f0 := hfz 0
                    have f1 := hfz 1
                    have f2 := hfz 2
                    have f3 := hfz 3
                    have f4 := hfz 4
                    have f5 := hfz 5
                    have H9 := Lib.hid hN9
                    clear hN9 hfz
                    go_wp2_with fail
                    refine bodyPost_ret (v := trV (wrongT p2 er)) (by simp [results, Tryz.results12, go_sem, trV, tokV, strV, wrongT, *]) rfl ?_
                    exact ⟨by rw [HR.out], setR H9.out.b (Nat.le_refl _) _ _ _ _ _ _⟩
                · have HR := Lib.hid (show res = wrongT (k : Int) 100 by rw [HT2.out, if_neg h34, if_neg hcn])
                  have hc34 : ((c.toNat : Int) == 34) = false := by
                    simp only [beq_eq_false_iff_ne, ne_eq]
                    intro e
                    exact h34 (UInt8.toNat_inj.1 (show c.toNat = 34 by omega))
                  clear hN0 hnum hcn HT2 HS HG HC HT h34
                  go_wp2_with fail
                  refine HI.out.mono ?_
                  rintro e w4 ⟨rfl, hN⟩
                  clear HI
                  have HN := Lib.hid hN
                  clear hN
                  go_wp2_with fail
                  refine (HN.out.wrong _ _).mono ?_
                  rintro o w9 ⟨rfl, hN9⟩
                  clear HN
                  obtain ⟨n0, n1, n2, n3, n4, n5, hfz⟩ := hN9.o.cells
                  have f0 := hfz 0
                  have f1 := hfz 1
                  have f2 := hfz 2
                  have f3 := hfz 3
                  have f4 := hfz 4
                  have f5 := hfz 5
                  have H9 := Lib.hid hN9
                  clear hN9 hfz
                  go_wp2_with fail
                  refine bodyPost_ret (v := trV (wrongT (k : Int) 100)) (by simp [results, Tryz.results12, go_sem, trV, tokV, strV, wrongT, *]) rfl ?_
                  exact ⟨by rw [HR.out], setR H9.out.b (Nat.le_refl _) _ _ _ _ _ _⟩
end Go.Proofs.YtgdhepoffnpgiaaGreatDoor
