/- The walks of lex.reader's word and literal. -/
import Derived.Test.YtccmhhmdenfecaaGreatDoorLm
import Derived.Test.YtccmhhmdenfecaaGreatDoorLi
namespace Go.Proofs.YtccmhhmdenfecaaGreatDoor
set_option linter.unusedVariables false
set_option linter.unusedSimpArgs false
open Go.RowKit Go.Shelf
theorem wcommon_le : ∀ (x l : List UInt8), commonN x l ≤ x.length
  | [], l => by cases l <;> simp [commonN]
  | a :: x, [] => by simp [commonN]
  | a :: x, b :: l => by
    unfold commonN
    split
    · have := wcommon_le x l
      simp only [List.length_cons]; omega
    · exact Nat.zero_le _
theorem wcommon_at : ∀ (x l : List UInt8) (i : Nat), i ≤ commonN x l → i < x.length → (i < commonN x l ↔ i < l.length ∧ l.getD i 0 = x.getD i 0)
  | [], l, i, _, h => by simp at h
  | a :: x, [], i, _, _ => by simp [commonN]
  | a :: x, b :: l, 0, _, _ => by
    unfold commonN
    simp only [List.length_cons, List.getD_cons_zero]
    split
    · rename_i h; simp [h]
    · rename_i h; simp; exact fun e => h e.symm
  | a :: x, b :: l, i + 1, h, hl => by
    unfold commonN at h ⊢
    split
    · rename_i hab
      rw [if_pos hab] at h
      have := wcommon_at x l i (by omega) (by simp only [List.length_cons] at hl; omega)
      simp only [List.length_cons, List.getD_cons_succ]
      rw [← show (i < l.length ↔ i + 1 < l.length + 1) by omega, ← this]
      omega
    · rename_i hab
      rw [if_neg hab] at h
      omega
theorem one_word {x l : List UInt8} {a i : Nat} (hi : i ≤ commonN x (l.drop a)) (hx : i < x.length) : oneB l [x.getD i 0] (a + i) = decide (i < commonN x (l.drop a)) := by
  have h := wcommon_at x (l.drop a) i hi hx
  rw [List.length_drop] at h
  have hd : (l.drop a).getD i 0 = l.getD (a + i) 0 := by simp [List.getD_eq_getElem?_getD, List.getElem?_drop]
  rw [hd] at h
  unfold oneB
  rw [Bool.eq_iff_iff]
  simp only [Bool.and_eq_true, decide_eq_true_eq, List.contains_cons, List.contains_nil, Bool.or_false, beq_iff_eq]
  rw [h]
  exact ⟨fun ⟨p, q⟩ => ⟨by omega, q⟩, fun ⟨p, q⟩ => ⟨by omega, q⟩⟩
/-- A token's zero cells, in a block of their own. -/
def Zero6 (w : World) (g : Nat) : Prop := w.heap[g]? = some (.cells #[.int .i64 0, .int .i64 0, .int .i64 0, .int .i64 0, .int .u64 0, .string .empty] 43 (0, 0))
theorem Zero6.cells {w : World} {g : Nat} (h : Zero6 w g) : w.cell? ⟨g, 0, none⟩ = some (.int .i64 0) ∧ w.cell? ⟨g, 1, none⟩ = some (.int .i64 0) ∧ w.cell? ⟨g, 2, none⟩ = some (.int .i64 0) ∧ w.cell? ⟨g, 3, none⟩ = some (.int .i64 0) ∧ w.cell? ⟨g, 4, none⟩ = some (.int .u64 0) ∧ w.cell? ⟨g, 5, none⟩ = some (.string .empty) ∧ ∀ i, w.frozen? ⟨g, i, none⟩ = false := by
  refine ⟨?_, ?_, ?_, ?_, ?_, ?_, fun i => ?_⟩
  all_goals first | (rw [Lib.cell_of_heap h]; rfl) | exact Lib.frozen_of_heap h i
theorem set6 {B : Nat} {T : List Nat} {a w : World} (h : Tch B T a w) {g : Nat} (hg : B ≤ g) (v0 v1 v2 v3 v4 v5 : Value) :
    Tch B T a ((((((w.setCell ⟨g, 0, none⟩ v0).setCell ⟨g, 1, none⟩ v1).setCell ⟨g, 2, none⟩ v2).setCell ⟨g, 3, none⟩ v3).setCell ⟨g, 4, none⟩ v4).setCell ⟨g, 5, none⟩ v5) :=
  (((((h.set (.inr hg) v0).set (.inr hg) v1).set (.inr hg) v2).set (.inr hg) v3).set (.inr hg) v4).set (.inr hg) v5
set_option maxHeartbeats 4000000 in
set_option maxRecDepth 100000 in
theorem word_any (l : List UInt8) (c : UInt8) (x : List UInt8) (kd : Int) (a : Nat) (R : Nat) (w : World) (hx : spellW c = some (x, kd)) (h : LRow w R l a a) (hl : l.length ≤ 1073741824) (ha : a ≤ l.length) :
    Calls Tryz.prog 71 #[.pointer (some ⟨R, 0, none⟩), strV x] w fun o w' => o = .returned (trV (wordM x kd (l.drop a) a)) ∧ Tch w.heap.size [R] w w' := by
  have hRw := h.lt
  have HK := Lib.hid fun W => kindOf_any c x kd W hx
  have hxl : x.length ≤ 5 := by
    have ht := spell_tab hx
    simp only [wordTab, List.mem_cons, List.not_mem_nil, or_false, Prod.mk.injEq] at ht
    rcases ht with ⟨-, rfl, -⟩ | ⟨-, rfl, -⟩ | ⟨-, rfl, -⟩ | ⟨-, rfl, -⟩ | ⟨-, rfl, -⟩ | ⟨-, rfl, -⟩ | ⟨-, rfl, -⟩ | ⟨-, rfl, -⟩ | ⟨-, rfl, -⟩ <;> decide
  have Hh := Lib.hid h
  clear h hx
  unfold strV at HK ⊢
  have hs : (⟨x.toArray⟩ : ByteArray).size = x.length := by simp [ByteArray.size]
  go_enter Tryz.func71, Tryz.ntmps71
  go_upto_region 1 with fail
  refine wp_named (fun wn => Tch w.heap.size [R] w wn ∧ w.heap.size < wn.heap.size ∧ Zero6 wn w.heap.size ∧ LRow wn R l ((a + 0 : Nat) : Int) a) ⟨(Tch.refl _ _ w).alloc (Nat.le_refl _) _, by simp, heap_alloc_new _ _, (Lib.alloc_old w _ R hRw).trans Hh.out⟩ ?_
  rintro wn hn
  go_wp2_with fail
  go_loopw [9] (fun i wr => ∃ j : Nat, j ≤ x.length ∧ i = .int .i64 j ∧ j ≤ commonN x (l.drop a) ∧ Tch w.heap.size [R] w wr ∧ w.heap.size < wr.heap.size ∧ Zero6 wr w.heap.size ∧ LRow wr R l ((a + j : Nat) : Int) a) (fun i _ => x.length - (intOf i).toNat)
  case atStart => exact ⟨0, Nat.zero_le _, rfl, Nat.zero_le _, hn.1, hn.2.1, hn.2.2.1, hn.2.2.2⟩
  case round =>
    clear hn
    obtain ⟨j, hj, rfl, hc, ht, hz, hg, hr⟩ := hrel
    have hRz : R ≠ w.heap.size := by omega
    have hRz' : w.heap.size ∉ [R] := by simp; omega
    by_cases hlt : j < x.length
    · have hltz : (j : Int) < (x.length : Int) := by omega
      have hsl := fun W => sub_run x j (j + 1) (by omega) (by omega) W
      rw [show (x.drop j).take (j + 1 - j) = [x.getD j 0] by rw [List.drop_eq_getElem_cons hlt, Nat.add_sub_cancel_left, List.getD_eq_getElem?_getD, List.getElem?_eq_getElem hlt]; rfl, Int.natCast_add, Int.natCast_one] at hsl
      have q1 : IntKind.i64.wrap ((j : Int) + 1) = j + 1 := IntWalk.i64_in _ (by omega)
      have HO := one_any l [x.getD j 0] (a + j) a R wr hr hl
      have hone := one_word (x := x) (l := l) (a := a) (i := j) hc hlt
      unfold oneN at HO
      rw [hone] at HO
      clear hone
      by_cases hm : j < commonN x (l.drop a)
      · have hm' : decide (j < commonN x (l.drop a)) = true := by simpa using hm
        rw [hm', if_pos rfl] at HO
        unfold strV at HO
        generalize x.getD j 0 = y at *
        have HO2 := Lib.hid HO
        clear HO hm' hr
        go_wp2_with fail
        refine HO2.out.mono ?_
        rintro e w1 ⟨rfl, ht1, hr1⟩
        have H1 := Lib.hid (And.intro ht1 hr1)
        clear ht1 hr1
        go_wp2_with fail
        go_roundw
        case rel => exact ⟨j + 1, by omega, by go_num, by omega, ht.call H1.out.1 (by omega), Nat.lt_of_lt_of_le hz H1.out.1.size, H1.out.1.row hg hz hRz', H1.out.2⟩
        case measure => simp only [intOf]; omega
      · have hm' : decide (j < commonN x (l.drop a)) = false := by simpa using hm
        have hcj : commonN x (l.drop a) = j := by omega
        have hw : Hid (wordM x kd (l.drop a) a = wrongT ((a + j : Nat) : Int) 100) := Lib.hid (by
          unfold wordM
          rw [hcj, if_neg (by omega)]
          rw [Int.natCast_add])
        rw [hm', if_neg Bool.false_ne_true, Nat.add_zero] at HO
        unfold strV at HO
        generalize x.getD j 0 = y at *
        have HO2 := Lib.hid HO
        clear HO hm' hr hm hcj hc
        go_wp2_with fail
        refine HO2.out.mono ?_
        rintro e w1 ⟨rfl, ht1, hr1⟩
        obtain ⟨-, c1, -, -⟩ := hr1.cells
        have hg1 := ht1.row hg hz hRz'
        have hz1 := Nat.lt_of_lt_of_le hz ht1.size
        have ht2 := ht.call ht1 (by omega)
        have H1 := Lib.hid (And.intro ht2 hg1)
        clear ht1 hr1 ht2 hg1 ht hg
        go_wp2_with fail
        refine (wrong_any _ _ _).mono ?_
        rintro o w2 ⟨rfl, hb2⟩
        have hz2 := Nat.lt_of_lt_of_le hz1 hb2.size
        have hg2 : Zero6 w2 w.heap.size := (hb2.block _ hz1).trans H1.out.2
        obtain ⟨n0, n1, n2, n3, n4, n5, hfz⟩ := hg2.cells
        have f0 := hfz 0
        have f1 := hfz 1
        have f2 := hfz 2
        have f3 := hfz 3
        have f4 := hfz 4
        have f5 := hfz 5
        have H2 := Lib.hid (H1.out.1.quiet hb2 (by omega))
        clear hb2 hg2 hfz
        unfold trV tokV wrongT strV
        go_wp2_with fail
        refine bodyPost_ret (v := trV (wrongT ((a + j : Nat) : Int) 100)) (by simp [results, Tryz.results71, go_sem, trV, tokV, wrongT, strV, *]) rfl ?_
        refine ⟨by rw [hw.out], set6 H2.out (Nat.le_refl _) _ _ _ _ _ _⟩
    · have hltz : ¬ (j : Int) < (x.length : Int) := by omega
      have hjl : j = x.length := by omega
      subst hjl
      have hcj : commonN x (l.drop a) = x.length := by have := wcommon_le x (l.drop a); omega
      have hw : Hid (wordM x kd (l.drop a) a = (⟨kd, a, ((a + x.length : Nat) : Int), 0, 0, []⟩, 0)) := Lib.hid (by
        unfold wordM
        rw [if_pos hcj, Int.natCast_add])
      have hRl := hr.lt
      have H1 := Lib.hid (And.intro ht hg)
      have HR := Lib.hid hr
      clear hc hcj ht hg hr hj hlt
      go_wp2_with fail
      refine (HK.out _).mono ?_
      rintro e w1 ⟨rfl, rfl⟩
      have HT := Lib.hid (token_any l ⟨kd, 0, 0, 0, 0, []⟩ ((a + x.length : Nat) : Int) a R (wr.alloc (.map (kE 9) 9)) ((Lib.alloc_old wr _ R hRl).trans HR.out))
      unfold tokV strV at HT
      go_wp2_with fail
      refine HT.out.mono ?_
      rintro o w2 ⟨rfl, hb2⟩
      have hza : w.heap.size < (wr.alloc (.map (kE 9) 9)).heap.size := by rw [World.size_alloc]; omega
      have hz2 := Nat.lt_of_lt_of_le hza hb2.size
      have hg2 : Zero6 w2 w.heap.size := (hb2.block _ hza).trans ((Lib.alloc_old wr _ _ hz).trans H1.out.2)
      obtain ⟨n0, n1, n2, n3, n4, n5, hfz⟩ := hg2.cells
      have f0 := hfz 0
      have f1 := hfz 1
      have f2 := hfz 2
      have f3 := hfz 3
      have f4 := hfz 4
      have f5 := hfz 5
      have H2 := Lib.hid ((H1.out.1.alloc (by omega) _).quiet hb2 (by omega))
      clear hb2 hg2 hfz HT
      unfold trV tokV strV
      go_wp2_with fail
      refine bodyPost_ret (v := trV (⟨kd, a, ((a + x.length : Nat) : Int), 0, 0, []⟩, 0)) (by simp [results, Tryz.results71, go_sem, trV, tokV, strV, *]) rfl ?_
      exact ⟨by rw [hw.out], set6 H2.out (Nat.le_refl _) _ _ _ _ _ _⟩
end Go.Proofs.YtccmhhmdenfecaaGreatDoor
