/- The walks of accordionref10's wrong, digits, is, value. The walk of accordionref10.number: written by wip/gen/nb.py. The walk of accordionref10.Next: written by wip/gen/nf.py. -/
import Derived.Test.YtccmhhmdenfecaaGreatDoorLl
import Derived.Test.YtccmhhmdenfecaaGreatDoorLt
import Derived.Deep.QuietTactic
import Derived.BigQuiet
import Derived.Test.YtccmhhmdenfecaaGreatDoorLw
namespace Go.Proofs.YtccmhhmdenfecaaGreatDoor
set_option linter.unusedVariables false
set_option linter.unusedSimpArgs false
section
open Go.RowKit Go.Shelf
set_option maxHeartbeats 4000000 in
set_option maxRecDepth 100000 in
theorem rwrong_any (a e : Int) (w : World) : Calls Tryz.prog 94 #[.int .i64 a, .int .i64 e] w fun o w' => o = .returned (trV (wrongT a e)) ∧ Below w.heap.size w w' := by
  go_enter Tryz.func94, Tryz.ntmps94
  go_wp2_with fail
  refine bodyPost_ret (v := trV (wrongT a e)) (by simp [results, Tryz.results94, go_sem, trV, tokV, wrongT, strV]) rfl ?_
  exact ⟨rfl, (Below.refl _ _).alloc (Nat.le_refl _) _⟩
theorem digs_cons {l : List UInt8} {k : Nat} (hk : k < l.length) : digs (l.drop k) = if digB (l.getD k 0) = true then digs (l.drop (k + 1)) + 1 else 0 := by
  have e : l.drop k = l.getD k 0 :: l.drop (k + 1) := by
    rw [List.drop_eq_getElem_cons hk, List.getD_eq_getElem?_getD, List.getElem?_eq_getElem hk]; rfl
  rw [e]
  unfold digs
  rw [List.takeWhile_cons]
  split
  · rename_i h; rw [List.length_cons]
  · rfl
set_option maxHeartbeats 4000000 in
set_option maxRecDepth 100000 in
theorem rdigits_any (l : List UInt8) (a : Nat) (ha : a ≤ l.length) (hl : l.length ≤ 1073741824) (w : World) : Calls Tryz.prog 116 #[strV l, .int .i64 a] w fun o w' => o = .returned (.int .i64 ((a + digs (l.drop a) : Nat) : Int)) ∧ w' = w := by
  have hs : (⟨l.toArray⟩ : ByteArray).size = l.length := by simp [ByteArray.size]
  generalize hr : a + digs (l.drop a) = r
  have HR := Lib.hid hr
  clear hr
  unfold strV
  go_enter Tryz.func116, Tryz.ntmps116
  go_wp2_with fail
  go_loop [1] (fun i => ∃ k : Nat, i = .int .i64 k ∧ k ≤ l.length ∧ Hid (k + digs (l.drop k) = r)) (fun i => l.length - (intOf i).toNat)
  case atStart => exact ⟨a, rfl, ha, HR⟩
  case round =>
    obtain ⟨k, rfl, hk, hq⟩ := hrel
    by_cases hlt : k < l.length
    · have hltz : (k : Int) < (l.length : Int) := by omega
      have hidx : (⟨l.toArray⟩ : ByteArray)[k]'(by omega) = l.getD k 0 := by
        show l.toArray[k] = _
        simp [List.getD_eq_getElem?_getD, hlt]
      have hd := digs_cons hlt
      have q1 : IntKind.i64.wrap ((k : Int) + 1) = k + 1 := IntWalk.i64_in _ (by omega)
      generalize l.getD k 0 = c at *
      by_cases h48 : 48 ≤ c.toNat
      · have z48 : (48 : Int) ≤ (c.toNat : Int) := by omega
        by_cases h57 : c.toNat ≤ 57
        · have z57 : (c.toNat : Int) ≤ 57 := by omega
          rw [if_pos (show digB c = true by unfold digB; simp [h48, h57])] at hd
          have HD := Lib.hid hd
          clear hd
          go_wp2_with fail
          go_round
          case rel => exact ⟨k + 1, by go_num, by omega, Lib.hid (by rw [← hq.out, HD.out]; omega)⟩
          case measure => simp only [intOf]; omega
        · have z57 : ¬ (c.toNat : Int) ≤ 57 := by omega
          rw [if_neg (show ¬ digB c = true by unfold digB; simp [h57])] at hd
          have HD := Lib.hid (show r = k by rw [← hq.out, hd]; omega)
          clear hd hq HR
          go_wp2_with fail
          go_ret
          exact ⟨by rw [HD.out]; first | done | rfl, rfl⟩
      · have z48 : ¬ (48 : Int) ≤ (c.toNat : Int) := by omega
        rw [if_neg (show ¬ digB c = true by unfold digB; simp [h48])] at hd
        have HD := Lib.hid (show r = k by rw [← hq.out, hd]; omega)
        clear hd hq HR
        go_wp2_with fail
        go_ret
        exact ⟨by rw [HD.out]; first | done | rfl, rfl⟩
    · have hltz : ¬ (k : Int) < (l.length : Int) := by omega
      have HD := Lib.hid (show r = k by rw [← hq.out, List.drop_of_length_le (by omega)]; rfl)
      clear hq HR
      go_wp2_with fail
      go_ret
      exact ⟨by rw [HD.out]; first | done | rfl, rfl⟩
theorem one_take {l some_ : List UInt8} {a j : Nat} (hj : j < some_.length) : oneB l (some_.take (j + 1)) a = (oneB l (some_.take j) a || (decide (a < l.length) && (l.getD a 0 == some_.getD j 0))) := by
  unfold oneB
  rw [List.take_succ_eq_append_getElem hj, List.getD_eq_getElem?_getD (l := some_), List.getElem?_eq_getElem hj]
  rw [Bool.eq_iff_iff]
  simp only [Bool.and_eq_true, Bool.or_eq_true, decide_eq_true_eq, List.contains_iff_mem, List.mem_append, List.mem_singleton, beq_iff_eq, Option.getD_some]
  constructor
  · rintro ⟨p, q | q⟩
    · exact .inl ⟨p, q⟩
    · exact .inr ⟨p, q⟩
  · rintro (⟨p, q⟩ | ⟨p, q⟩)
    · exact ⟨p, .inl q⟩
    · exact ⟨p, .inr q⟩
set_option maxHeartbeats 4000000 in
set_option maxRecDepth 100000 in
theorem ris_any (l some_ : List UInt8) (a : Nat) (hl : l.length ≤ 1073741824) (hso : some_.length ≤ 100) (ha : a ≤ 2147483648) (w : World) : Calls Tryz.prog 95 #[strV l, .int .i64 a, strV some_] w fun o w' => o = .returned (.bool (oneB l some_ a)) ∧ ∃ n, w' = w.drewN n := by
  have hs : (⟨l.toArray⟩ : ByteArray).size = l.length := by simp [ByteArray.size]
  have hs2 : (⟨some_.toArray⟩ : ByteArray).size = some_.length := by simp [ByteArray.size]
  generalize hr : oneB l some_ a = r
  have HR := Lib.hid hr
  clear hr
  unfold strV
  go_enter Tryz.func95, Tryz.ntmps95
  go_wp2_with fail
  go_loopw [7] (fun i wr => ∃ (j n : Nat), i = .int .i64 j ∧ j ≤ some_.length ∧ wr = w.drewN n ∧ Hid (oneB l (some_.take j) a = false)) (fun i _ => some_.length - (intOf i).toNat)
  case atStart => exact ⟨0, 0, rfl, Nat.zero_le _, rfl, Lib.hid (by unfold oneB; simp)⟩
  case round =>
    obtain ⟨j, n, rfl, hj, rfl, hq⟩ := hrel
    by_cases hlt : j < some_.length
    · have hltz : (j : Int) < (some_.length : Int) := by omega
      have hidx2 : (⟨some_.toArray⟩ : ByteArray)[j]'(by omega) = some_.getD j 0 := by
        show some_.toArray[j] = _
        simp [List.getD_eq_getElem?_getD, hlt]
      have q1 : IntKind.i64.wrap ((j : Int) + 1) = j + 1 := IntWalk.i64_in _ (by omega)
      have hst := one_take (l := l) (a := a) hlt
      rw [hq.out, Bool.false_or] at hst
      by_cases hal : a < l.length
      · have hdl : decide (a < l.length) = true := by simpa using hal
        have haz : (a : Int) < (l.length : Int) := by omega
        have hidx : (⟨l.toArray⟩ : ByteArray)[a]'(by omega) = l.getD a 0 := by
          show l.toArray[a] = _
          simp [List.getD_eq_getElem?_getD, hal]
        rw [hdl, Bool.true_and] at hst
        by_cases hc : l.getD a 0 = some_.getD j 0
        · have HD := Lib.hid (show r = true by
            rw [← HR.out]
            have h1 : oneB l (some_.take (j + 1)) a = true := by rw [hst, hc]; simp
            unfold oneB at h1 ⊢
            simp only [Bool.and_eq_true, List.contains_iff_mem] at h1 ⊢
            exact ⟨h1.1, List.mem_of_mem_take h1.2⟩)
          have hcz : (((l.getD a 0).toNat : Int) == ((some_.getD j 0).toNat : Int)) = true := by rw [hc]; simp
          clear hst hc hq HR
          generalize l.getD a 0 = c at *
          generalize some_.getD j 0 = d at *
          go_wp2_with fail
          go_quiet (fail)
          go_wp2_with fail
          go_ret
          exact ⟨by rw [HD.out]; first | done | rfl, _, World.drewN_drewN _ _ _⟩
        · have HD := Lib.hid (show oneB l (some_.take (j + 1)) a = false by rw [hst]; simpa using hc)
          have hcz : (((l.getD a 0).toNat : Int) == ((some_.getD j 0).toNat : Int)) = false := by
            simp only [beq_eq_false_iff_ne, ne_eq, Int.natCast_inj]
            exact fun e => hc (UInt8.toNat_inj.1 e)
          clear hst hc hq HR
          generalize l.getD a 0 = c at *
          generalize some_.getD j 0 = d at *
          go_wp2_with fail
          go_quiet (fail)
          go_wp2_with fail
          go_roundw
          case rel => exact ⟨j + 1, _, by go_num, by omega, rfl, HD⟩
          case measure => simp only [intOf]; omega
      · have hdl : decide (a < l.length) = false := by simpa using hal
        rw [hdl, Bool.false_and] at hst
        have HD := Lib.hid hst
        clear hst hq HR hal
        go_wp2_with fail
        go_quiet (fail)
        go_wp2_with fail
        go_roundw
        case rel => exact ⟨j + 1, _, by go_num, by omega, rfl, HD⟩
        case measure => simp only [intOf]; omega
    · have hltz : ¬ (j : Int) < (some_.length : Int) := by omega
      have HD := Lib.hid (show r = false by rw [← HR.out, ← hq.out, List.take_of_length_le (by omega)])
      clear hq HR
      go_wp2_with fail
      go_ret
      exact ⟨by rw [HD.out]; first | done | rfl, _, rfl⟩
theorem fold_take {l : List UInt8} {k : Nat} (hk : k < l.length) : valU (l.take (k + 1)) = 10 * valU (l.take k) + ((l.getD k 0).toNat - 48) := by
  unfold valU
  rw [List.take_succ_eq_append_getElem hk, List.foldl_append, List.getD_eq_getElem?_getD, List.getElem?_eq_getElem hk]
  rfl
theorem valU_take (l : List UInt8) (k : Nat) : valU (l.take k) ≤ valU l := by
  have h := List.take_append_drop k l
  have e : valU l = (l.drop k).foldl (fun a c => 10 * a + (c.toNat - 48)) (valU (l.take k)) := by
    conv => lhs; rw [← h]
    unfold valU
    rw [List.foldl_append]
  rw [e]
  exact foldl_ge _ _
set_option maxHeartbeats 4000000 in
set_option maxRecDepth 100000 in
theorem rvalue_any (l : List UInt8) (hd : ∀ c ∈ l, digB c = true) (hl : l.length ≤ 1073741824) (w : World) : Calls Tryz.prog 117 #[strV l] w fun o w' => o = .returned (if 2 ^ 64 ≤ valU l then .tuple #[.int .u64 0, .bool false] else .tuple #[.int .u64 (valU l), .bool true]) ∧ w' = w := by
  have hs : (⟨l.toArray⟩ : ByteArray).size = l.length := by simp [ByteArray.size]
  have HD := Lib.hid hd
  clear hd
  generalize hres : (if 2 ^ 64 ≤ valU l then Value.tuple #[.int .u64 0, .bool false] else .tuple #[.int .u64 (valU l), .bool true]) = res
  have HR := Lib.hid hres
  clear hres
  unfold strV
  go_enter Tryz.func117, Tryz.ntmps117
  go_wp2_with fail
  go_loop [4, 5] (fun n i => ∃ k : Nat, i = .int .i64 k ∧ n = .int .u64 (valU (l.take k)) ∧ k ≤ l.length ∧ Hid (valU (l.take k) < 2 ^ 64)) (fun _ i => l.length - (intOf i).toNat)
  case atStart => exact ⟨0, rfl, rfl, Nat.zero_le _, Lib.hid (by show (0 : Nat) < 2 ^ 64; decide)⟩
  case round =>
    obtain ⟨k, rfl, rfl, hk, hv⟩ := hrel
    by_cases hlt : k < l.length
    · have hltz : (k : Int) < (l.length : Int) := by omega
      have hidx : (⟨l.toArray⟩ : ByteArray)[k]'(by omega) = l.getD k 0 := by
        show l.toArray[k] = _
        simp [List.getD_eq_getElem?_getD, hlt]
      have hst := fold_take hlt
      have hle := valU_take l (k + 1)
      have hdg := HD.out (l.getD k 0) (by rw [List.getD_eq_getElem?_getD, List.getElem?_eq_getElem hlt]; exact List.getElem_mem hlt)
      unfold digB at hdg
      simp only [Bool.and_eq_true, decide_eq_true_eq] at hdg
      have q1 : IntKind.i64.wrap ((k : Int) + 1) = k + 1 := IntWalk.i64_in _ (by omega)
      generalize l.getD k 0 = c at *
      generalize valU (l.take k) = v at *
      obtain ⟨d, hdd⟩ : ∃ d : Nat, d = c.toNat - 48 := ⟨_, rfl⟩
      have hd9 : d ≤ 9 := by omega
      have hvo := hv.out
      have q2 : IntKind.u8.wrap ((c.toNat : Int) - 48) = (d : Int) := by rw [IntWalk.u8_in _ (by omega)]; omega
      have q3 : IntKind.u64.wrap (d : Int) = d := IntWalk.u64_in _ (by omega)
      obtain ⟨m, hm⟩ : ∃ m : Int, m = 18446744073709551615 - d := ⟨_, rfl⟩
      have q4 : IntKind.u64.wrap (18446744073709551615 - (d : Int)) = m := by rw [hm]; exact IntWalk.u64_in _ (by omega)
      have hm0 : 0 ≤ m := by omega
      obtain ⟨q, hqq⟩ : ∃ q : Int, q = m / 10 := ⟨_, rfl⟩
      have hz0 : (0 : Int) ≤ (d : Int) := by omega
      have hz9 : (d : Int) ≤ 9 := by omega
      have q5 : m / 10 = q := hqq.symm
      have q6 : m.tdiv 10 = q := by rw [Int.tdiv_eq_ediv_of_nonneg hm0]; exact q5
      have q9 : IntKind.u64.wrap q = q := IntWalk.u64_in _ (by omega)
      rw [← hdd] at hst
      by_cases hov : (v : Int) ≤ q
      · have hnv : ¬ q < (v : Int) := by omega
        have hb : 10 * v + d < 2 ^ 64 := by omega
        obtain ⟨y, hy⟩ : ∃ y : Int, y = 10 * (v : Int) := ⟨_, rfl⟩
        obtain ⟨y2, hy2⟩ : ∃ y2 : Int, y2 = y + d := ⟨_, rfl⟩
        have q7 : IntKind.u64.wrap (10 * (v : Int)) = y := by rw [hy]; exact IntWalk.u64_in _ (by omega)
        have q8 : IntKind.u64.wrap (y + (d : Int)) = y2 := by rw [hy2]; exact IntWalk.u64_in _ (by omega)
        have HF := Lib.hid (show Value.int .u64 y2 = .int .u64 (valU (l.take (k + 1))) ∧ valU (l.take (k + 1)) < 2 ^ 64 by
          rw [hst]
          refine ⟨?_, by omega⟩
          congr 1
          push_cast
          omega)
        clear hst hle hvo hm hqq hdd hov hb hy hy2 hd9 hv
        generalize (d : Int) = z at *
        generalize (v : Int) = vz at *
        go_wp2_with fail
        go_round
        case rel => exact ⟨k + 1, by go_num, HF.out.1, by omega, Lib.hid HF.out.2⟩
        case measure => simp only [intOf]; omega
      · have hnv : q < (v : Int) := by omega
        have HF := Lib.hid (show res = .tuple #[.int .u64 0, .bool false] by
          rw [← HR.out, if_pos (by omega)])
        clear hst hle hvo hm hqq hdd hov hd9 hv
        generalize (d : Int) = z at *
        generalize (v : Int) = vz at *
        go_wp2_with fail
        go_ret2
        exact ⟨by rw [HF.out]; first | done | rfl, rfl⟩
    · have hltz : ¬ (k : Int) < (l.length : Int) := by omega
      have HV := Lib.hid (show res = .tuple #[.int .u64 (valU (l.take k)), .bool true] by
        have hvo := hv.out
        rw [← HR.out]
        rw [List.take_of_length_le (by omega)] at hvo ⊢
        rw [if_neg (by omega)])
      clear hv
      go_wp2_with fail
      go_ret2
      exact ⟨by rw [HV.out]; first | done | rfl, rfl⟩
end
section
open Go.RowKit Go.Shelf
theorem wp_namedR {P : Program} {c : Code} {Q : Exit → Act → World → Prop} {a : Act} {W : World} (R : World → Prop) (hR : R W) (h : ∀ wn, R wn → c.wp P Q a wn) : c.wp P Q a W := h W hR
/-- The zero cells of a token of the reference. -/
def ZeroR (w : World) (g : Nat) : Prop := w.heap[g]? = some (.cells #[.int .i64 0, .int .i64 0, .int .i64 0, .int .i64 0, .int .u64 0, .string .empty] 64 (0, 0))
theorem ZeroR.cells {w : World} {g : Nat} (h : ZeroR w g) : w.cell? ⟨g, 0, none⟩ = some (.int .i64 0) ∧ w.cell? ⟨g, 1, none⟩ = some (.int .i64 0) ∧ w.cell? ⟨g, 2, none⟩ = some (.int .i64 0) ∧ w.cell? ⟨g, 3, none⟩ = some (.int .i64 0) ∧ w.cell? ⟨g, 4, none⟩ = some (.int .u64 0) ∧ w.cell? ⟨g, 5, none⟩ = some (.string .empty) ∧ ∀ i, w.frozen? ⟨g, i, none⟩ = false := by
  refine ⟨?_, ?_, ?_, ?_, ?_, ?_, fun i => ?_⟩
  all_goals first | (rw [Lib.cell_of_heap h]; rfl) | exact Lib.frozen_of_heap h i
theorem setR {B : Nat} {a w : World} (h : Below B a w) {g : Nat} (hg : B ≤ g) (v0 v1 v2 v3 v4 v5 : Value) :
    Below B a ((((((w.setCell ⟨g, 0, none⟩ v0).setCell ⟨g, 1, none⟩ v1).setCell ⟨g, 2, none⟩ v2).setCell ⟨g, 3, none⟩ v3).setCell ⟨g, 4, none⟩ v4).setCell ⟨g, 5, none⟩ v5) :=
  (((((h.setCell hg v0).setCell hg v1).setCell hg v2).setCell hg v3).setCell hg v4).setCell hg v5
/-- Where a function of the reference stands: its result in the block at the size of w. -/
structure NR (w wn : World) : Prop where
  b : Below w.heap.size w wn
  z : w.heap.size < wn.heap.size
  o : ZeroR wn w.heap.size
theorem NR.quiet {w wn w1 : World} (h : NR w wn) (hb : Below wn.heap.size wn w1) : NR w w1 :=
  ⟨h.b.trans (hb.mono (Nat.le_of_lt h.z)), Nat.lt_of_lt_of_le h.z hb.size, (hb.block _ h.z).trans h.o⟩
theorem NR.is {w wn : World} (h : NR w wn) (l cs : List UInt8) (a : Nat) (hl : l.length ≤ 1073741824) (hc : cs.length ≤ 100) (ha : a ≤ 2147483648) :
    Calls Tryz.prog 95 #[strV l, .int .i64 a, strV cs] wn fun e w1 => e = .returned (.bool (oneB l cs a)) ∧ NR w w1 :=
  (ris_any l cs a hl hc ha wn).mono fun _ _ ⟨he, n, hw⟩ => ⟨he, by rw [hw]; exact h.quiet (below_drewN (Below.refl _ _) n)⟩
theorem NR.yes {w wn : World} (h : NR w wn) {l cs : List UInt8} {a : Nat} (hb : oneB l cs a = true) (hl : l.length ≤ 1073741824) (hc : cs.length ≤ 100) (ha : a ≤ 2147483648) :
    Calls Tryz.prog 95 #[strV l, .int .i64 a, strV cs] wn fun e w1 => e = .returned (.bool true) ∧ NR w w1 := by
  have := h.is l cs a hl hc ha
  rwa [hb] at this
theorem NR.no {w wn : World} (h : NR w wn) {l cs : List UInt8} {a : Nat} (hb : oneB l cs a = false) (hl : l.length ≤ 1073741824) (hc : cs.length ≤ 100) (ha : a ≤ 2147483648) :
    Calls Tryz.prog 95 #[strV l, .int .i64 a, strV cs] wn fun e w1 => e = .returned (.bool false) ∧ NR w w1 := by
  have := h.is l cs a hl hc ha
  rwa [hb] at this
theorem NR.wrong {w wn : World} (h : NR w wn) (x e : Int) :
    Calls Tryz.prog 94 #[.int .i64 x, .int .i64 e] wn fun o w1 => o = .returned (.tuple #[.agg #[.int .i64 0, .int .i64 x, .int .i64 x, .int .i64 0, .int .u64 0, .string ⟨#[]⟩], .int .i64 e]) ∧ NR w w1 :=
  (rwrong_any x e wn).mono fun _ _ ⟨he, hb⟩ => ⟨he, h.quiet hb⟩
theorem rdig (l : List UInt8) (k k' : Nat) (h : k' = k + overN l DD k) (hk : k ≤ l.length) (hl : l.length ≤ 1073741824) (w : World) : Calls Tryz.prog 116 #[strV l, .int .i64 k] w fun o w' => o = .returned (.int .i64 (k' : Int)) ∧ w = w' :=
  (rdigits_any l k hk hl w).mono fun _ _ ⟨he, hw⟩ => ⟨by rw [he, h, over_digs], hw.symm⟩
theorem neg_u64r {u : Nat} (h : u ≤ 9223372036854775808) : IntKind.i64.wrap (IntKind.u64.wrap (-(u : Int))) = -(u : Int) := by
  rcases Nat.eq_zero_or_pos u with rfl | hp
  · rfl
  · have e : IntKind.u64.wrap (-(u : Int)) = 18446744073709551616 - u := by
      simp [IntKind.wrap, IntKind.signed, IntKind.bits]
      omega
    rw [e]
    simp [IntKind.wrap, IntKind.signed, IntKind.bits]
    (repeat' split) <;> omega
theorem whole_casesR (l : List UInt8) (k1 : Nat) (hk : k1 ≤ l.length) : (oneB l [48] k1 = false ∧ overN l DD k1 = 0) ∨ ∃ k2, k1 < k2 ∧ k2 ≤ l.length ∧ (∀ c ∈ (l.drop k1).take (k2 - k1), digB c = true) ∧ (∀ nb a, numS0 nb l a k1 = numS1 nb l a k1 k2) ∧
    ((oneB l [48] k1 = true ∧ k2 = k1 + 1) ∨ (oneB l [48] k1 = false ∧ k2 = k1 + overN l DD k1)) := by
  cases hz : oneB l [48] k1 with
  | true =>
    have hlt := one_lt hz
    refine .inr ⟨k1 + 1, by omega, by omega, ?_, fun nb a => by unfold numS0; rw [if_pos hz], .inl ⟨rfl, rfl⟩⟩
    rw [Nat.add_sub_cancel_left]
    rw [one_eq, List.drop_eq_getElem_cons hlt] at hz
    rw [List.drop_eq_getElem_cons hlt, List.take_succ_cons, List.take_zero]
    intro c hc
    rw [List.mem_singleton] at hc
    have hz' : l[k1] = 48 := by unfold headB at hz; rw [List.head?_cons, Option.any_some] at hz; simpa using hz
    rw [hc, hz']
    decide
  | false =>
    by_cases hd : overN l DD k1 = 0
    · exact .inl ⟨rfl, hd⟩
    · have hle := overN_le l DD k1
      refine .inr ⟨k1 + overN l DD k1, by omega, by omega, ?_, fun nb a => by unfold numS0; rw [hz, if_neg Bool.false_ne_true, if_neg hd], .inr ⟨rfl, rfl⟩⟩
      rw [Nat.add_sub_cancel_left, over_digs]
      exact (digs_all _).1
theorem subr_run (l : List UInt8) (i j : Nat) (hij : i ≤ j) (hj : j ≤ l.length) (W : World) : (Instr.slice 9 (.string ⟨l.toArray⟩) (some (.int .i64 i)) (some (.int .i64 j)) none).run Tryz.prog W = .ok (.string ⟨((l.drop i).take (j - i)).toArray⟩) W := sub_run l i j hij hj W
set_option maxHeartbeats 16000000 in
set_option maxRecDepth 100000 in
theorem rnumber_any (l : List UInt8) (a : Nat) (w : World) (hl : l.length ≤ 1073741824) (ha : a ≤ l.length) :
    Calls Tryz.prog 96 #[strV l, .int .i64 a] w fun o w' => o = .returned (trV (numS l a)) ∧ Below w.heap.size w w' := by
  have hs : (⟨l.toArray⟩ : ByteArray).size = l.length := by simp [ByteArray.size]
  unfold numS
  have hk1 := oneN_le l [45] a ha
  generalize hres : numS0 (oneB l [45] a) l a (a + oneN l [45] a) = res
  unfold strV
  go_enter Tryz.func96, Tryz.ntmps96
  go_upto_region 1 with fail
  refine wp_namedR (NR w) ⟨(Below.refl _ w).alloc (Nat.le_refl _) _, by simp, heap_alloc_new _ _⟩ ?_
  rintro wn hN0
  have HR0 := Lib.hid hres
  have HI := Lib.hid (hN0.is l [45] a hl (by decide) (by omega))
  unfold strV at HI
  clear hres hN0
  go_wp2_with fail
  refine HI.out.mono ?_
  rintro e w1 ⟨rfl, hN1⟩
  have HN1 := Lib.hid hN1
  clear hN1 HI
  have hres := HR0.out
  clear HR0
  obtain ⟨k1, hk1e⟩ : ∃ x, x = a + oneN l [45] a := ⟨_, rfl⟩
  rw [← hk1e] at hres hk1
  have hcut1 : (oneB l [45] a = true ∧ k1 = a + 1) ∨ (oneB l [45] a = false ∧ k1 = a) := by
    rw [hk1e]; unfold oneN
    cases oneB l [45] a <;> simp
  clear hk1e
  generalize oneB l [45] a = nb at *
  have HC1 := Lib.hid hcut1
  clear hcut1
  go_upto_if 19 with fail
  go_cut [6] (fun s6 wx => s6 = .int .i64 k1 ∧ w1 = wx)
  case first =>
    rcases HC1.out with ⟨rfl, hk⟩ | ⟨rfl, hk⟩
    · have q1 : IntKind.i64.wrap ((a : Int) + 1) = k1 := by rw [IntWalk.i64_in _ (by omega)]; omega
      clear hk
      go_wp2_with fail
      go_meet
      exact ⟨rfl, rfl⟩
    · subst hk
      go_wp2_with fail
      go_meet
      exact ⟨rfl, rfl⟩
  case rest =>
  obtain ⟨rfl, rfl⟩ := hcut
  clear HC1
  rcases whole_casesR l k1 hk1 with ⟨hz, hd⟩ | ⟨k2, hlt2, hle2, hdg, hS, hcase⟩
  · have HR := Lib.hid (show res = wrongT (k1 : Int) 100 by rw [← hres]; unfold numS0; rw [hz, if_neg Bool.false_ne_true, if_pos hd])
    have HI := Lib.hid (HN1.out.no hz hl (by decide) (by omega))
    have HD := Lib.hid (fun W => rdig l k1 k1 (by omega) hk1 hl W)
    unfold strV at HI HD
    clear hres hz hd
    go_wp2_with fail
    refine HI.out.mono ?_
    rintro e w2 ⟨rfl, hN⟩
    clear HI HN1
    go_wp2_with fail
    refine (HD.out _).mono ?_
    rintro e w3 ⟨rfl, rfl⟩
    have HN := Lib.hid hN
    clear hN
    go_wp2_with fail
    refine (HN.out.wrong _ _).mono ?_
    rintro o w9 ⟨rfl, hN9⟩
    clear HN
    obtain ⟨n0, n1, n2, n3, n4, n5, hfz⟩ := hN9.o.cells
    have f0 := hfz 0
    have f1 := hfz 1
    have f2 := hfz 2
    have f3 := hfz 3
    have f4 := hfz 4
    have f5 := hfz 5
    have H9 := Lib.hid hN9
    clear hN9 hfz
    go_wp2_with fail
    refine bodyPost_ret (v := trV (wrongT (k1 : Int) 100)) (by simp [results, Tryz.results96, go_sem, trV, tokV, strV, wrongT, *]) rfl ?_
    exact ⟨by rw [HR.out], setR H9.out.b (Nat.le_refl _) _ _ _ _ _ _⟩
  rw [hS] at hres
  have HRS := Lib.hid hres
  have HP := Lib.hid hdg
  have HI := Lib.hid (HN1.out.is l [48] k1 hl (by decide) (by omega))
  unfold strV at HI
  clear hS hres hdg
  go_wp2_with fail
  refine HI.out.mono ?_
  rintro e w2 ⟨rfl, hN2⟩
  have HN2 := Lib.hid hN2
  clear hN2 HI HN1
  generalize oneB l [48] k1 = z at *
  have HC2 := Lib.hid hcase
  clear hcase
  go_upto_if 25 with fail
  go_cut [6] (fun s6 wx => s6 = .int .i64 k2 ∧ w2 = wx)
  case first =>
    rcases HC2.out with ⟨rfl, hk⟩ | ⟨rfl, hk⟩
    · have q1 : IntKind.i64.wrap ((k1 : Int) + 1) = k2 := by rw [IntWalk.i64_in _ (by omega)]; omega
      clear hk
      go_wp2_with fail
      go_meet
      exact ⟨rfl, rfl⟩
    · have HD := Lib.hid (fun W => rdig l k1 k2 hk hk1 hl W)
      unfold strV at HD
      clear hk
      go_wp2_with fail
      refine (HD.out _).mono ?_
      rintro e w3 ⟨rfl, rfl⟩
      go_wp2_with fail
      go_meet
      exact ⟨rfl, rfl⟩
  case rest =>
  obtain ⟨rfl, rfl⟩ := hcut
  clear HC2
  have hne : ((k2 : Int) == (k1 : Int)) = false := by simp; omega
  have hsl := fun W => subr_run l k1 k2 (by omega) hle2 W
  cases hp : oneB l [46] k2
  · have HQ := Lib.hid (show numS2 nb l a k1 k2 false k2 = res by rw [← HRS.out]; unfold numS1; rw [hp, if_neg Bool.false_ne_true])
    have HI := Lib.hid (HN2.out.no hp hl (by decide) (by omega))
    unfold strV at HI
    clear hp HRS HN2
    go_wp2_with fail
    refine HI.out.mono ?_
    rintro e w5 ⟨rfl, hN⟩
    clear HI
    cases hq : oneB l [101, 69] k2
    · have HQ2 := Lib.hid (show numS3 nb l a k1 k2 false k2 = res by rw [← HQ.out]; unfold numS2; rw [hq, if_neg Bool.false_ne_true])
      have HI := Lib.hid (hN.no hq hl (by decide) (by omega))
      unfold strV at HI
      clear HQ hN hq
      go_wp2_with fail
      refine HI.out.mono ?_
      rintro e w7 ⟨rfl, hN⟩
      clear HI
      have hiq := HQ2.out
      unfold numS3 at hiq
      rw [if_neg Bool.false_ne_true] at hiq
      unfold intT at hiq
      have HIQ := Lib.hid hiq
      have hgt : ¬ (k2 : Int) < (k2 : Int) := by omega
      have HX := Lib.hid (rvalue_any _ HP.out (by simp only [List.length_take, List.length_drop]; omega))
      clear hiq HQ2
      by_cases h64 : 2 ^ 64 ≤ valU ((l.drop k1).take (k2 - k1))
      · have HR := Lib.hid (show res = wrongT (a : Int) 101 by rw [← HIQ.out, if_pos (.inl h64)])
        rw [if_pos h64] at HX
        unfold strV at HX
        clear h64 HIQ
        go_wp2_with fail
        refine (HX.out _).mono ?_
        rintro e w8 ⟨rfl, rfl⟩
        clear HX
        have HN := Lib.hid hN
        clear hN
        go_wp2_with fail
        refine (HN.out.wrong _ _).mono ?_
        rintro o w9 ⟨rfl, hN9⟩
        clear HN
        obtain ⟨n0, n1, n2, n3, n4, n5, hfz⟩ := hN9.o.cells
        have f0 := hfz 0
        have f1 := hfz 1
        have f2 := hfz 2
        have f3 := hfz 3
        have f4 := hfz 4
        have f5 := hfz 5
        have H9 := Lib.hid hN9
        clear hN9 hfz
        go_wp2_with fail
        refine bodyPost_ret (v := trV (wrongT (a : Int) 101)) (by simp [results, Tryz.results96, go_sem, trV, tokV, strV, wrongT, *]) rfl ?_
        exact ⟨by rw [HR.out], setR H9.out.b (Nat.le_refl _) _ _ _ _ _ _⟩
      rw [if_neg h64] at HX
      unfold strV at HX
      generalize valU ((l.drop k1).take (k2 - k1)) = u at *
      cases nb
      · by_cases h63 : 9223372036854775808 ≤ u
        · have HR := Lib.hid (show res = (⟨11, (a : Int), (k2 : Int), 0, (u : Int), []⟩, 0) by rw [← HIQ.out, if_neg (by rintro (h | ⟨h, -⟩); omega; cases h), if_neg Bool.false_ne_true, if_pos (by omega)])
          have hz63 : (9223372036854775808 : Int) ≤ (u : Int) := by omega
          clear h64 h63 HIQ
          generalize hzu : (u : Int) = z at HX hz63
          have HZ := Lib.hid hzu
          clear hzu
          go_wp2_with fail
          refine (HX.out _).mono ?_
          rintro e w8 ⟨rfl, rfl⟩
          clear HX
          have HN := Lib.hid hN
          clear hN
          go_upto_region 35 with fail
          refine wp_namedR (fun wx => NR w wx ∧ wx.heap[w8.heap.size]? = some (.cells #[.int .i64 11, .int .i64 a, .int .i64 k2, .int .i64 0, .int .u64 z, .string ⟨#[]⟩] 64 (0, 0))) ⟨HN.out.quiet ((Below.refl _ _).alloc (Nat.le_refl _) _), heap_alloc_new _ _⟩ ?_
          clear HN
          generalize w8.heap.size = G8 at *
          rintro wx ⟨hN, hg⟩
          have g0 := Lib.cell_of_heap hg 0
          have g1 := Lib.cell_of_heap hg 1
          have g2 := Lib.cell_of_heap hg 2
          have g3 := Lib.cell_of_heap hg 3
          have g4 := Lib.cell_of_heap hg 4
          have g5 := Lib.cell_of_heap hg 5
          simp only [List.getElem?_toArray, List.getElem?_cons_succ, List.getElem?_cons_zero] at g0 g1 g2 g3 g4 g5
          obtain ⟨n0, n1, n2, n3, n4, n5, hfz⟩ := hN.o.cells
          have f0 := hfz 0
          have f1 := hfz 1
          have f2 := hfz 2
          have f3 := hfz 3
          have f4 := hfz 4
          have f5 := hfz 5
          have H9 := Lib.hid hN
          clear hN hfz hg
          go_wp2_with fail
          refine bodyPost_ret (v := trV (⟨11, (a : Int), (k2 : Int), 0, u, []⟩, 0)) (by simp [results, Tryz.results96, go_sem, trV, tokV, strV, HZ.out, *]) rfl ?_
          exact ⟨by rw [HR.out], setR H9.out.b (Nat.le_refl _) _ _ _ _ _ _⟩
        · have HR := Lib.hid (show res = (⟨10, (a : Int), (k2 : Int), (u : Int), 0, []⟩, 0) by rw [← HIQ.out, if_neg (by rintro (h | ⟨h, -⟩); omega; cases h), if_neg Bool.false_ne_true, if_neg (by omega)])
          have hz63 : ¬ (9223372036854775808 : Int) ≤ (u : Int) := by omega
          have qw : IntKind.i64.wrap (u : Int) = u := IntWalk.i64_in _ (by omega)
          have hz0 : (0 : Int) ≤ (u : Int) := by omega
          clear h64 h63 HIQ
          generalize (u : Int) = z at *
          go_wp2_with fail
          refine (HX.out _).mono ?_
          rintro e w8 ⟨rfl, rfl⟩
          clear HX
          have HN := Lib.hid hN
          clear hN
          go_upto_region 35 with fail
          refine wp_namedR (fun wx => NR w wx ∧ wx.heap[w8.heap.size]? = some (.cells #[.int .i64 10, .int .i64 a, .int .i64 k2, .int .i64 z, .int .u64 0, .string ⟨#[]⟩] 64 (0, 0))) ⟨HN.out.quiet ((Below.refl _ _).alloc (Nat.le_refl _) _), heap_alloc_new _ _⟩ ?_
          clear HN
          generalize w8.heap.size = G8 at *
          rintro wx ⟨hN, hg⟩
          have g0 := Lib.cell_of_heap hg 0
          have g1 := Lib.cell_of_heap hg 1
          have g2 := Lib.cell_of_heap hg 2
          have g3 := Lib.cell_of_heap hg 3
          have g4 := Lib.cell_of_heap hg 4
          have g5 := Lib.cell_of_heap hg 5
          simp only [List.getElem?_toArray, List.getElem?_cons_succ, List.getElem?_cons_zero] at g0 g1 g2 g3 g4 g5
          obtain ⟨n0, n1, n2, n3, n4, n5, hfz⟩ := hN.o.cells
          have f0 := hfz 0
          have f1 := hfz 1
          have f2 := hfz 2
          have f3 := hfz 3
          have f4 := hfz 4
          have f5 := hfz 5
          have H9 := Lib.hid hN
          clear hN hfz hg
          go_wp2_with fail
          refine bodyPost_ret (v := trV (⟨10, (a : Int), (k2 : Int), z, 0, []⟩, 0)) (by simp [results, Tryz.results96, go_sem, trV, tokV, strV, *]) rfl ?_
          exact ⟨by rw [HR.out], setR H9.out.b (Nat.le_refl _) _ _ _ _ _ _⟩
      · by_cases h63 : 9223372036854775808 < u
        · have HR := Lib.hid (show res = wrongT (a : Int) 101 by rw [← HIQ.out, if_pos (.inr ⟨rfl, by omega⟩)])
          have hz63 : (9223372036854775808 : Int) < (u : Int) := by omega
          clear h64 h63 HIQ
          generalize (u : Int) = z at *
          go_wp2_with fail
          refine (HX.out _).mono ?_
          rintro e w8 ⟨rfl, rfl⟩
          clear HX
          have HN := Lib.hid hN
          clear hN
          go_wp2_with fail
          refine (HN.out.wrong _ _).mono ?_
          rintro o w9 ⟨rfl, hN9⟩
          clear HN
          obtain ⟨n0, n1, n2, n3, n4, n5, hfz⟩ := hN9.o.cells
          have f0 := hfz 0
          have f1 := hfz 1
          have f2 := hfz 2
          have f3 := hfz 3
          have f4 := hfz 4
          have f5 := hfz 5
          have H9 := Lib.hid hN9
          clear hN9 hfz
          go_wp2_with fail
          refine bodyPost_ret (v := trV (wrongT (a : Int) 101)) (by simp [results, Tryz.results96, go_sem, trV, tokV, strV, wrongT, *]) rfl ?_
          exact ⟨by rw [HR.out], setR H9.out.b (Nat.le_refl _) _ _ _ _ _ _⟩
        · have HR := Lib.hid (show res = (⟨10, (a : Int), (k2 : Int), -(u : Int), 0, []⟩, 0) by rw [← HIQ.out, if_neg (by rintro (h | ⟨-, h⟩) <;> omega), if_pos rfl])
          have hz63 : ¬ (9223372036854775808 : Int) < (u : Int) := by omega
          have qw : IntKind.i64.wrap (IntKind.u64.wrap (-(u : Int))) = -(u : Int) := neg_u64r (by omega)
          have hz0 : (0 : Int) ≤ (u : Int) := by omega
          clear h64 h63 HIQ
          generalize (u : Int) = z at *
          go_wp2_with fail
          refine (HX.out _).mono ?_
          rintro e w8 ⟨rfl, rfl⟩
          clear HX
          have HN := Lib.hid hN
          clear hN
          go_upto_region 35 with fail
          refine wp_namedR (fun wx => NR w wx ∧ wx.heap[w8.heap.size]? = some (.cells #[.int .i64 10, .int .i64 a, .int .i64 k2, .int .i64 (-z), .int .u64 0, .string ⟨#[]⟩] 64 (0, 0))) ⟨HN.out.quiet ((Below.refl _ _).alloc (Nat.le_refl _) _), heap_alloc_new _ _⟩ ?_
          clear HN
          generalize w8.heap.size = G8 at *
          rintro wx ⟨hN, hg⟩
          have g0 := Lib.cell_of_heap hg 0
          have g1 := Lib.cell_of_heap hg 1
          have g2 := Lib.cell_of_heap hg 2
          have g3 := Lib.cell_of_heap hg 3
          have g4 := Lib.cell_of_heap hg 4
          have g5 := Lib.cell_of_heap hg 5
          simp only [List.getElem?_toArray, List.getElem?_cons_succ, List.getElem?_cons_zero] at g0 g1 g2 g3 g4 g5
          obtain ⟨n0, n1, n2, n3, n4, n5, hfz⟩ := hN.o.cells
          have f0 := hfz 0
          have f1 := hfz 1
          have f2 := hfz 2
          have f3 := hfz 3
          have f4 := hfz 4
          have f5 := hfz 5
          have H9 := Lib.hid hN
          clear hN hfz hg
          go_wp2_with fail
          refine bodyPost_ret (v := trV (⟨10, (a : Int), (k2 : Int), -z, 0, []⟩, 0)) (by simp [results, Tryz.results96, go_sem, trV, tokV, strV, *]) rfl ?_
          exact ⟨by rw [HR.out], setR H9.out.b (Nat.le_refl _) _ _ _ _ _ _⟩
    · have hlt5 := one_lt hq
      have hle5 := oneN_le l [43, 45] (k2 + 1) (by omega)
      have HQ2 := Lib.hid (show (if overN l DD (k2 + 1 + oneN l [43, 45] (k2 + 1)) = 0 then wrongT ((k2 + 1 + oneN l [43, 45] (k2 + 1) : Nat) : Int) 100 else wrongT (a : Int) 101) = res by rw [← HQ.out]; unfold numS2; rw [hq, if_pos rfl])
      have HI := Lib.hid (hN.yes hq hl (by decide) (by omega))
      unfold strV at HI
      obtain ⟨k5, hk5⟩ : ∃ x, x = k2 + 1 := ⟨_, rfl⟩
      have q5 : IntKind.i64.wrap ((k2 : Int) + 1) = k5 := by rw [IntWalk.i64_in _ (by omega)]; omega
      rw [← hk5] at HQ2 hle5
      have hgt5 : k2 < k5 := by omega
      have hle5' : k5 ≤ l.length := by omega
      clear HQ hN hq hk5 hlt5
      go_wp2_with fail
      refine HI.out.mono ?_
      rintro e w7 ⟨rfl, hN7⟩
      clear HI
      have HI := Lib.hid (hN7.is l [43, 45] k5 hl (by decide) (by omega))
      unfold strV at HI
      clear hN7
      obtain ⟨k6, hk6⟩ : ∃ x, x = k5 + oneN l [43, 45] k5 := ⟨_, rfl⟩
      rw [← hk6] at HQ2 hle5
      have hcut6 : (oneB l [43, 45] k5 = true ∧ k6 = k5 + 1) ∨ (oneB l [43, 45] k5 = false ∧ k6 = k5) := by
        rw [hk6]; unfold oneN
        cases oneB l [43, 45] k5 <;> simp
      clear hk6
      go_wp2_with fail
      refine HI.out.mono ?_
      rintro e w8 ⟨rfl, hN8⟩
      have HN8 := Lib.hid hN8
      clear hN8 HI
      generalize oneB l [43, 45] k5 = pm at *
      have HC6 := Lib.hid hcut6
      clear hcut6
      go_upto_if 62 with fail
      go_cut [6] (fun s6 wx => s6 = .int .i64 k6 ∧ w8 = wx)
      case first =>
        rcases HC6.out with ⟨rfl, hk⟩ | ⟨rfl, hk⟩
        · have q6 : IntKind.i64.wrap ((k5 : Int) + 1) = k6 := by rw [IntWalk.i64_in _ (by omega)]; omega
          clear hk
          go_wp2_with fail
          go_meet
          exact ⟨rfl, rfl⟩
        · subst hk
          go_wp2_with fail
          go_meet
          exact ⟨rfl, rfl⟩
      case rest =>
      obtain ⟨rfl, rfl⟩ := hcut
      have hge6 : k5 ≤ k6 := by rcases HC6.out with ⟨-, h⟩ | ⟨-, h⟩ <;> omega
      clear HC6
      have hov6 := overN_le l DD k6
      obtain ⟨k7, hk7⟩ : ∃ x, x = k6 + overN l DD k6 := ⟨_, rfl⟩
      have HD := Lib.hid (fun W => rdig l k6 k7 hk7 hle5 hl W)
      unfold strV at HD
      by_cases hd6 : overN l DD k6 = 0
      · have HR := Lib.hid (show res = wrongT (k6 : Int) 100 by rw [← HQ2.out, if_pos hd6])
        have hk7' : k7 = k6 := by omega
        subst hk7'
        have hez : ((k7 : Int) == (k7 : Int)) = true := by simp
        have hN := HN8.out
        clear HN8 HQ2 hd6 hk7
        go_wp2_with fail
        refine (HD.out _).mono ?_
        rintro e w6 ⟨rfl, rfl⟩
        have HN := Lib.hid hN
        clear hN
        go_wp2_with fail
        refine (HN.out.wrong _ _).mono ?_
        rintro o w9 ⟨rfl, hN9⟩
        clear HN
        obtain ⟨n0, n1, n2, n3, n4, n5, hfz⟩ := hN9.o.cells
        have f0 := hfz 0
        have f1 := hfz 1
        have f2 := hfz 2
        have f3 := hfz 3
        have f4 := hfz 4
        have f5 := hfz 5
        have H9 := Lib.hid hN9
        clear hN9 hfz
        go_wp2_with fail
        refine bodyPost_ret (v := trV (wrongT (k7 : Int) 100)) (by simp [results, Tryz.results96, go_sem, trV, tokV, strV, wrongT, *]) rfl ?_
        exact ⟨by rw [HR.out], setR H9.out.b (Nat.le_refl _) _ _ _ _ _ _⟩
      · have HR := Lib.hid (show res = wrongT (a : Int) 101 by rw [← HQ2.out, if_neg hd6])
        have hez : ((k7 : Int) == (k6 : Int)) = false := by simp; omega
        have hgt7 : k2 < k7 := by omega
        have hN := HN8.out
        clear HN8 HQ2 hd6 hk7
        go_wp2_with fail
        refine (HD.out _).mono ?_
        rintro e w6 ⟨rfl, rfl⟩
        have HX := Lib.hid (rvalue_any _ HP.out (by simp only [List.length_take, List.length_drop]; omega))
        have hgt : (k2 : Int) < (k7 : Int) := by omega
        have hgtn : k2 < k7 := by omega
        go_wp2_with fail
        refine (HX.out _).mono ?_
        rintro e w8 ⟨rfl, rfl⟩
        generalize hvv : (if 2 ^ 64 ≤ valU ((l.drop k1).take (k2 - k1)) then Value.tuple #[.int .u64 0, .bool false] else .tuple #[.int .u64 (valU ((l.drop k1).take (k2 - k1))), .bool true]) = vv
        obtain ⟨u0, b0, rfl⟩ : ∃ (u0 : Int) (b0 : Bool), vv = .tuple #[.int .u64 u0, .bool b0] := by
          rw [← hvv]
          split
          · exact ⟨_, _, rfl⟩
          · exact ⟨_, _, rfl⟩
        clear hvv HX
        have HN := Lib.hid hN
        clear hN
        go_wp2_with fail
        refine (HN.out.wrong _ _).mono ?_
        rintro o w9 ⟨rfl, hN9⟩
        clear HN
        obtain ⟨n0, n1, n2, n3, n4, n5, hfz⟩ := hN9.o.cells
        have f0 := hfz 0
        have f1 := hfz 1
        have f2 := hfz 2
        have f3 := hfz 3
        have f4 := hfz 4
        have f5 := hfz 5
        have H9 := Lib.hid hN9
        clear hN9 hfz
        go_wp2_with fail
        refine bodyPost_ret (v := trV (wrongT (a : Int) 101)) (by simp [results, Tryz.results96, go_sem, trV, tokV, strV, wrongT, *]) rfl ?_
        exact ⟨by rw [HR.out], setR H9.out.b (Nat.le_refl _) _ _ _ _ _ _⟩
  · have hlt3 := one_lt hp
    have hov := overN_le l DD (k2 + 1)
    have HQ0 := Lib.hid (show (if overN l DD (k2 + 1) = 0 then wrongT ((k2 + 1 : Nat) : Int) 100 else numS2 nb l a k1 k2 true (k2 + 1 + overN l DD (k2 + 1))) = res by rw [← HRS.out]; unfold numS1; rw [hp, if_pos rfl])
    have HI := Lib.hid (HN2.out.yes hp hl (by decide) (by omega))
    unfold strV at HI
    obtain ⟨kk, hkk⟩ : ∃ x, x = k2 + 1 := ⟨_, rfl⟩
    have q1 : IntKind.i64.wrap ((k2 : Int) + 1) = kk := by rw [IntWalk.i64_in _ (by omega)]; omega
    rw [← hkk] at HQ0 hov
    obtain ⟨k3, hk3⟩ : ∃ x, x = kk + overN l DD kk := ⟨_, rfl⟩
    have HD := Lib.hid (fun W => rdig l kk k3 hk3 (by omega) hl W)
    unfold strV at HD
    by_cases hd3 : overN l DD kk = 0
    · have HR := Lib.hid (show res = wrongT (kk : Int) 100 by rw [← HQ0.out, if_pos hd3])
      have hk3' : k3 = kk := by omega
      subst hk3'
      have hez : ((k3 : Int) == (k3 : Int)) = true := by simp
      clear hp HRS HN2 HQ0 hd3 hk3 hkk
      go_wp2_with fail
      refine HI.out.mono ?_
      rintro e w5 ⟨rfl, hN⟩
      clear HI
      go_wp2_with fail
      refine (HD.out _).mono ?_
      rintro e w6 ⟨rfl, rfl⟩
      have HN := Lib.hid hN
      clear hN
      go_wp2_with fail
      refine (HN.out.wrong _ _).mono ?_
      rintro o w9 ⟨rfl, hN9⟩
      clear HN
      obtain ⟨n0, n1, n2, n3, n4, n5, hfz⟩ := hN9.o.cells
      have f0 := hfz 0
      have f1 := hfz 1
      have f2 := hfz 2
      have f3 := hfz 3
      have f4 := hfz 4
      have f5 := hfz 5
      have H9 := Lib.hid hN9
      clear hN9 hfz
      go_wp2_with fail
      refine bodyPost_ret (v := trV (wrongT (k3 : Int) 100)) (by simp [results, Tryz.results96, go_sem, trV, tokV, strV, wrongT, *]) rfl ?_
      exact ⟨by rw [HR.out], setR H9.out.b (Nat.le_refl _) _ _ _ _ _ _⟩
    · have HQ := Lib.hid (show numS2 nb l a k1 k2 true k3 = res by rw [← HQ0.out, if_neg hd3, hk3])
      have hez : ((k3 : Int) == (kk : Int)) = false := by simp; omega
      have hgt3 : k2 < k3 := by omega
      have hle3' : k3 ≤ l.length := by omega
      clear hp HRS HN2 HQ0 hd3 hk3 hkk hov
      go_wp2_with fail
      refine HI.out.mono ?_
      rintro e w5 ⟨rfl, hN⟩
      clear HI
      go_wp2_with fail
      refine (HD.out _).mono ?_
      rintro e w6 ⟨rfl, rfl⟩
      clear HD
      cases hq : oneB l [101, 69] k3
      · have HQ2 := Lib.hid (show numS3 nb l a k1 k2 true k3 = res by rw [← HQ.out]; unfold numS2; rw [hq, if_neg Bool.false_ne_true])
        have HI := Lib.hid (hN.no hq hl (by decide) (by omega))
        unfold strV at HI
        clear HQ hN hq
        go_wp2_with fail
        refine HI.out.mono ?_
        rintro e w7 ⟨rfl, hN⟩
        clear HI
        have HR := Lib.hid (show res = wrongT (a : Int) 101 by rw [← HQ2.out]; unfold numS3; rw [if_pos rfl])
        have HX := Lib.hid (rvalue_any _ HP.out (by simp only [List.length_take, List.length_drop]; omega))
        have hgt : (k2 : Int) < (k3 : Int) := by omega
        have hgtn : k2 < k3 := by omega
        go_wp2_with fail
        refine (HX.out _).mono ?_
        rintro e w8 ⟨rfl, rfl⟩
        generalize hvv : (if 2 ^ 64 ≤ valU ((l.drop k1).take (k2 - k1)) then Value.tuple #[.int .u64 0, .bool false] else .tuple #[.int .u64 (valU ((l.drop k1).take (k2 - k1))), .bool true]) = vv
        obtain ⟨u0, b0, rfl⟩ : ∃ (u0 : Int) (b0 : Bool), vv = .tuple #[.int .u64 u0, .bool b0] := by
          rw [← hvv]
          split
          · exact ⟨_, _, rfl⟩
          · exact ⟨_, _, rfl⟩
        clear hvv HX
        have HN := Lib.hid hN
        clear hN
        go_wp2_with fail
        refine (HN.out.wrong _ _).mono ?_
        rintro o w9 ⟨rfl, hN9⟩
        clear HN
        obtain ⟨n0, n1, n2, n3, n4, n5, hfz⟩ := hN9.o.cells
        have f0 := hfz 0
        have f1 := hfz 1
        have f2 := hfz 2
        have f3 := hfz 3
        have f4 := hfz 4
        have f5 := hfz 5
        have H9 := Lib.hid hN9
        clear hN9 hfz
        go_wp2_with fail
        refine bodyPost_ret (v := trV (wrongT (a : Int) 101)) (by simp [results, Tryz.results96, go_sem, trV, tokV, strV, wrongT, *]) rfl ?_
        exact ⟨by rw [HR.out], setR H9.out.b (Nat.le_refl _) _ _ _ _ _ _⟩
      · have hlt5 := one_lt hq
        have hle5 := oneN_le l [43, 45] (k3 + 1) (by omega)
        have HQ2 := Lib.hid (show (if overN l DD (k3 + 1 + oneN l [43, 45] (k3 + 1)) = 0 then wrongT ((k3 + 1 + oneN l [43, 45] (k3 + 1) : Nat) : Int) 100 else wrongT (a : Int) 101) = res by rw [← HQ.out]; unfold numS2; rw [hq, if_pos rfl])
        have HI := Lib.hid (hN.yes hq hl (by decide) (by omega))
        unfold strV at HI
        obtain ⟨k5, hk5⟩ : ∃ x, x = k3 + 1 := ⟨_, rfl⟩
        have q5 : IntKind.i64.wrap ((k3 : Int) + 1) = k5 := by rw [IntWalk.i64_in _ (by omega)]; omega
        rw [← hk5] at HQ2 hle5
        have hgt5 : k2 < k5 := by omega
        have hle5' : k5 ≤ l.length := by omega
        clear HQ hN hq hk5 hlt5
        go_wp2_with fail
        refine HI.out.mono ?_
        rintro e w7 ⟨rfl, hN7⟩
        clear HI
        have HI := Lib.hid (hN7.is l [43, 45] k5 hl (by decide) (by omega))
        unfold strV at HI
        clear hN7
        obtain ⟨k6, hk6⟩ : ∃ x, x = k5 + oneN l [43, 45] k5 := ⟨_, rfl⟩
        rw [← hk6] at HQ2 hle5
        have hcut6 : (oneB l [43, 45] k5 = true ∧ k6 = k5 + 1) ∨ (oneB l [43, 45] k5 = false ∧ k6 = k5) := by
          rw [hk6]; unfold oneN
          cases oneB l [43, 45] k5 <;> simp
        clear hk6
        go_wp2_with fail
        refine HI.out.mono ?_
        rintro e w8 ⟨rfl, hN8⟩
        have HN8 := Lib.hid hN8
        clear hN8 HI
        generalize oneB l [43, 45] k5 = pm at *
        have HC6 := Lib.hid hcut6
        clear hcut6
        go_upto_if 62 with fail
        go_cut [6] (fun s6 wx => s6 = .int .i64 k6 ∧ w8 = wx)
        case first =>
          rcases HC6.out with ⟨rfl, hk⟩ | ⟨rfl, hk⟩
          · have q6 : IntKind.i64.wrap ((k5 : Int) + 1) = k6 := by rw [IntWalk.i64_in _ (by omega)]; omega
            clear hk
            go_wp2_with fail
            go_meet
            exact ⟨rfl, rfl⟩
          · subst hk
            go_wp2_with fail
            go_meet
            exact ⟨rfl, rfl⟩
        case rest =>
        obtain ⟨rfl, rfl⟩ := hcut
        have hge6 : k5 ≤ k6 := by rcases HC6.out with ⟨-, h⟩ | ⟨-, h⟩ <;> omega
        clear HC6
        have hov6 := overN_le l DD k6
        obtain ⟨k7, hk7⟩ : ∃ x, x = k6 + overN l DD k6 := ⟨_, rfl⟩
        have HD := Lib.hid (fun W => rdig l k6 k7 hk7 hle5 hl W)
        unfold strV at HD
        by_cases hd6 : overN l DD k6 = 0
        · have HR := Lib.hid (show res = wrongT (k6 : Int) 100 by rw [← HQ2.out, if_pos hd6])
          have hk7' : k7 = k6 := by omega
          subst hk7'
          have hez : ((k7 : Int) == (k7 : Int)) = true := by simp
          have hN := HN8.out
          clear HN8 HQ2 hd6 hk7
          go_wp2_with fail
          refine (HD.out _).mono ?_
          rintro e w6 ⟨rfl, rfl⟩
          have HN := Lib.hid hN
          clear hN
          go_wp2_with fail
          refine (HN.out.wrong _ _).mono ?_
          rintro o w9 ⟨rfl, hN9⟩
          clear HN
          obtain ⟨n0, n1, n2, n3, n4, n5, hfz⟩ := hN9.o.cells
          have f0 := hfz 0
          have f1 := hfz 1
          have f2 := hfz 2
          have f3 := hfz 3
          have f4 := hfz 4
          have f5 := hfz 5
          have H9 := Lib.hid hN9
          clear hN9 hfz
          go_wp2_with fail
          refine bodyPost_ret (v := trV (wrongT (k7 : Int) 100)) (by simp [results, Tryz.results96, go_sem, trV, tokV, strV, wrongT, *]) rfl ?_
          exact ⟨by rw [HR.out], setR H9.out.b (Nat.le_refl _) _ _ _ _ _ _⟩
        · have HR := Lib.hid (show res = wrongT (a : Int) 101 by rw [← HQ2.out, if_neg hd6])
          have hez : ((k7 : Int) == (k6 : Int)) = false := by simp; omega
          have hgt7 : k2 < k7 := by omega
          have hN := HN8.out
          clear HN8 HQ2 hd6 hk7
          go_wp2_with fail
          refine (HD.out _).mono ?_
          rintro e w6 ⟨rfl, rfl⟩
          have HX := Lib.hid (rvalue_any _ HP.out (by simp only [List.length_take, List.length_drop]; omega))
          have hgt : (k2 : Int) < (k7 : Int) := by omega
          have hgtn : k2 < k7 := by omega
          go_wp2_with fail
          refine (HX.out _).mono ?_
          rintro e w8 ⟨rfl, rfl⟩
          generalize hvv : (if 2 ^ 64 ≤ valU ((l.drop k1).take (k2 - k1)) then Value.tuple #[.int .u64 0, .bool false] else .tuple #[.int .u64 (valU ((l.drop k1).take (k2 - k1))), .bool true]) = vv
          obtain ⟨u0, b0, rfl⟩ : ∃ (u0 : Int) (b0 : Bool), vv = .tuple #[.int .u64 u0, .bool b0] := by
            rw [← hvv]
            split
            · exact ⟨_, _, rfl⟩
            · exact ⟨_, _, rfl⟩
          clear hvv HX
          have HN := Lib.hid hN
          clear hN
          go_wp2_with fail
          refine (HN.out.wrong _ _).mono ?_
          rintro o w9 ⟨rfl, hN9⟩
          clear HN
          obtain ⟨n0, n1, n2, n3, n4, n5, hfz⟩ := hN9.o.cells
          have f0 := hfz 0
          have f1 := hfz 1
          have f2 := hfz 2
          have f3 := hfz 3
          have f4 := hfz 4
          have f5 := hfz 5
          have H9 := Lib.hid hN9
          clear hN9 hfz
          go_wp2_with fail
          refine bodyPost_ret (v := trV (wrongT (a : Int) 101)) (by simp [results, Tryz.results96, go_sem, trV, tokV, strV, wrongT, *]) rfl ?_
          exact ⟨by rw [HR.out], setR H9.out.b (Nat.le_refl _) _ _ _ _ _ _⟩
end
section
open Go.RowKit Go.Shelf
theorem blanks_cons {l : List UInt8} {k : Nat} (hk : k < l.length) : blanksN (l.drop k) = if blankB (l.getD k 0) = true then blanksN (l.drop (k + 1)) + 1 else 0 := by
  have e : l.drop k = l.getD k 0 :: l.drop (k + 1) := by
    rw [List.drop_eq_getElem_cons hk, List.getD_eq_getElem?_getD, List.getElem?_eq_getElem hk]; rfl
  rw [e]
  unfold blanksN
  rw [List.takeWhile_cons]
  split
  · rw [List.length_cons]
  · rfl
theorem blank_one (l : List UInt8) (k : Nat) : oneB l [32, 9, 10, 13] k = (decide (k < l.length) && blankB (l.getD k 0)) := by
  unfold oneB
  rw [blank_contains]
theorem rnext_at (l : List UInt8) (a : Nat) (ha : a ≤ l.length) : nextM l a = tokM (l.drop (a + blanksN (l.drop a))) ((a + blanksN (l.drop a) : Nat) : Int) := by
  unfold nextM
  rw [if_neg (by omega), Int.toNat_natCast, List.drop_drop]
  congr 1
theorem NR.start (w : World) : NR w (w.alloc (.cells #[.int .i64 0, .int .i64 0, .int .i64 0, .int .i64 0, .int .u64 0, .string .empty] 64 (0, 0))) := ⟨(Below.refl _ w).alloc (Nat.le_refl _) _, by simp, heap_alloc_new _ _⟩
def marks : List UInt8 := [123, 125, 91, 93, 44, 58]
theorem mark_tok (c : UInt8) (t : List UInt8) (k j : Nat) (hj : j < 6) (h : c = marks.getD j 0) : tokM (c :: t) (k : Int) = (⟨1 + (j : Int), (k : Int), (k : Int) + 1, 0, 0, []⟩, 0) := by
  subst h
  have : j = 0 ∨ j = 1 ∨ j = 2 ∨ j = 3 ∨ j = 4 ∨ j = 5 := by omega
  rcases this with rfl | rfl | rfl | rfl | rfl | rfl <;> simp [marks, tokM, spellW, wordM, commonN]
theorem mark_idx {j : Nat} (hj : j < 6) (h : j < (⟨#[123, 125, 91, 93, 44, 58]⟩ : ByteArray).size) : (⟨#[123, 125, 91, 93, 44, 58]⟩ : ByteArray)[j]'h = marks.getD j 0 := by
  show (#[123, 125, 91, 93, 44, 58] : Array UInt8)[j]'h = _
  have : j = 0 ∨ j = 1 ∨ j = 2 ∨ j = 3 ∨ j = 4 ∨ j = 5 := by omega
  rcases this with rfl | rfl | rfl | rfl | rfl | rfl <;> rfl
def wds : List (List UInt8) := [[110, 117, 108, 108], [102, 97, 108, 115, 101], [116, 114, 117, 101]]
/-- NR, and the list of words in a block of its own. -/
structure NW (w : World) (S : Nat) (wn : World) : Prop where
  n : NR w wn
  z : S < wn.heap.size
  o : wn.heap[S]? = some (.cells #[.string ⟨#[110, 117, 108, 108]⟩, .string ⟨#[102, 97, 108, 115, 101]⟩, .string ⟨#[116, 114, 117, 101]⟩] 9 (0, 0))
theorem NW.quiet {w wn w1 : World} {S : Nat} (h : NW w S wn) (hb : Below wn.heap.size wn w1) : NW w S w1 := ⟨h.n.quiet hb, Nat.lt_of_lt_of_le h.z hb.size, (hb.block _ h.z).trans h.o⟩
theorem NW.cell {w wn : World} {S : Nat} (h : NW w S wn) {j : Nat} (hj : j < 3) : wn.cell? ⟨S, j, none⟩ = some (.string ⟨(wds.getD j []).toArray⟩) := by
  rw [Lib.cell_of_heap h.o]
  have : j = 0 ∨ j = 1 ∨ j = 2 := by omega
  rcases this with rfl | rfl | rfl <;> rfl
theorem wd_facts {j : Nat} (hj : j < 3) (c : UInt8) : 0 < (wds.getD j []).length ∧ (wds.getD j []).length ≤ 5 ∧ (c = (wds.getD j []).getD 0 0 → spellW c = some (wds.getD j [], 7 + (j : Int))) := by
  have : j = 0 ∨ j = 1 ∨ j = 2 := by omega
  rcases this with rfl | rfl | rfl
  all_goals
    refine ⟨by decide, by decide, ?_⟩
    rintro rfl
    decide
theorem spell_none {c : UInt8} (h1 : ∀ i, i < 6 → c ≠ marks.getD i 0) (h2 : ∀ i, i < 3 → c ≠ (wds.getD i []).getD 0 0) : spellW c = none := by
  unfold spellW
  rw [if_neg (show ¬ c = 123 from h1 0 (by omega)), if_neg (show ¬ c = 125 from h1 1 (by omega)), if_neg (show ¬ c = 91 from h1 2 (by omega)), if_neg (show ¬ c = 93 from h1 3 (by omega)), if_neg (show ¬ c = 44 from h1 4 (by omega)), if_neg (show ¬ c = 58 from h1 5 (by omega)), if_neg (show ¬ c = 110 from h2 0 (by omega)), if_neg (show ¬ c = 102 from h2 1 (by omega)), if_neg (show ¬ c = 116 from h2 2 (by omega))]
theorem one_slice {x : List UInt8} {m : Nat} (hm : m < x.length) (W : World) : (Instr.slice 9 (.string ⟨x.toArray⟩) (some (.int .i64 m)) (some (.int .i64 ((m : Int) + 1))) none).run Tryz.prog W = .ok (.string ⟨[x.getD m 0].toArray⟩) W := by
  have h := subr_run x m (m + 1) (by omega) (by omega) W
  rw [show ((m + 1 : Nat) : Int) = (m : Int) + 1 from rfl] at h
  rw [h]
  have e : (x.drop m).take (m + 1 - m) = [x.getD m 0] := by
    rw [Nat.add_sub_cancel_left, List.drop_eq_getElem_cons hm, List.take_succ_cons, List.take_zero, List.getD_eq_getElem?_getD, List.getElem?_eq_getElem hm]
    rfl
  rw [e]
set_option maxHeartbeats 16000000 in
set_option maxRecDepth 100000 in
theorem rnext_range (l : List UInt8) (a : Int) (w : World) (hl : l.length ≤ 1073741824) (ha : a < 0 ∨ l.length < a) :
    Calls Tryz.prog 57 #[strV l, .int .i64 a] w fun o w' => o = .returned (trV (nextM l a)) ∧ Below w.heap.size w w' := by
  have hs : (⟨l.toArray⟩ : ByteArray).size = l.length := by simp [ByteArray.size]
  obtain ⟨res, hres⟩ : ∃ r, r = nextM l a := ⟨_, rfl⟩
  rw [← hres]
  have HR := Lib.hid (show res = wrongT 0 6 by rw [hres]; unfold nextM; rw [if_pos ha])
  clear hres
  unfold strV
  rcases Int.lt_or_le a 0 with h0 | h0
  case' inl => clear ha
  case' inr =>
    have h1 : (l.length : Int) < a := by omega
    have h0' : ¬ a < 0 := by omega
    clear ha
  all_goals
    go_enter Tryz.func57, Tryz.ntmps57
    go_upto_region 2 with fail
    refine wp_namedR (NR w) (NR.start w) ?_
    rintro wn hN
    have HN := Lib.hid hN
    clear hN
    go_wp2_with fail
    refine (HN.out.wrong _ _).mono ?_
    rintro o w9 ⟨rfl, hN9⟩
    clear HN
    obtain ⟨n0, n1, n2, n3, n4, n5, hfz⟩ := hN9.o.cells
    have f0 := hfz 0
    have f1 := hfz 1
    have f2 := hfz 2
    have f3 := hfz 3
    have f4 := hfz 4
    have f5 := hfz 5
    have H9 := Lib.hid hN9
    clear hN9 hfz
    go_wp2_with fail
    refine bodyPost_ret (v := trV (wrongT 0 6)) (by simp [results, Tryz.results57, go_sem, trV, tokV, strV, wrongT, *]) rfl ?_
    exact ⟨by rw [HR.out], setR H9.out.b (Nat.le_refl _) _ _ _ _ _ _⟩
set_option maxHeartbeats 16000000 in
set_option maxRecDepth 100000 in
theorem rnext_in (HU : Hid (∀ (s : List UInt8) (W : World), s.length ≤ 1073741824 → Calls Tryz.prog 97 #[strV s] W fun o w' => o = .returned (.tuple #[strV (unqM s).1, .int .i64 (unqM s).2.1, .int .i64 (unqM s).2.2.1, .int .i64 (unqM s).2.2.2]) ∧ Below W.heap.size W w'))
    (l : List UInt8) (a : Nat) (w : World) (hl : l.length ≤ 1073741824) (ha : a ≤ l.length) :
    Calls Tryz.prog 57 #[strV l, .int .i64 a] w fun o w' => o = .returned (trV (nextM l a)) ∧ Below w.heap.size w w' := by
  have hs : (⟨l.toArray⟩ : ByteArray).size = l.length := by simp [ByteArray.size]
  obtain ⟨res, hres⟩ : ∃ r, r = nextM l a := ⟨_, rfl⟩
  rw [← hres]
  obtain ⟨q, hq⟩ : ∃ q, q = a + blanksN (l.drop a) := ⟨_, rfl⟩
  have HRS := Lib.hid (show res = tokM (l.drop q) q by rw [hres, rnext_at l a ha, hq])
  have HQ := Lib.hid hq.symm
  clear hres hq
  have ha0 : ¬ (a : Int) < 0 := by omega
  have ha1 : ¬ (l.length : Int) < (a : Int) := by omega
  unfold strV
  go_enter Tryz.func57, Tryz.ntmps57
  go_wp2_with fail
  go_loopw [1] (fun i wr => ∃ k : Nat, i = .int .i64 k ∧ k ≤ l.length ∧ NR w wr ∧ Hid (k + blanksN (l.drop k) = q)) (fun i _ => l.length - (intOf i).toNat)
  case atStart => exact ⟨a, rfl, ha, NR.start w, HQ⟩
  case round =>
    clear HQ ha0 ha1 ha
    obtain ⟨k, rfl, hk, hN, hq⟩ := hrel
    cases hb : oneB l [32, 9, 10, 13] k
    case true =>
      have hlt := one_lt hb
      have HD := Lib.hid (show k + 1 + blanksN (l.drop (k + 1)) = q by
        rw [← hq.out, blanks_cons hlt]
        rw [blank_one] at hb
        simp only [Bool.and_eq_true, decide_eq_true_eq] at hb
        rw [if_pos hb.2]
        omega)
      have q1 : IntKind.i64.wrap ((k : Int) + 1) = k + 1 := IntWalk.i64_in _ (by omega)
      have HI := Lib.hid (hN.yes hb hl (by decide) (by omega))
      unfold strV at HI
      clear hN hb hq
      go_wp2_with fail
      refine HI.out.mono ?_
      rintro e w1 ⟨rfl, hN1⟩
      clear HI
      have HN1 := Lib.hid hN1
      clear hN1
      go_wp2_with fail
      go_roundw
      case rel => exact ⟨k + 1, by go_num, by omega, HN1.out, HD⟩
      case measure => simp only [intOf]; omega
    case false =>
      have HI := Lib.hid (hN.no hb hl (by decide) (by omega))
      unfold strV at HI
      by_cases hend : k = l.length
      · have HR := Lib.hid (show res = (⟨0, (k : Int), (k : Int), 0, 0, []⟩, 0) by
          have h0 : k = q := by rw [← hq.out, List.drop_of_length_le (by omega)]; rfl
          rw [HRS.out, ← h0, List.drop_of_length_le (by omega)]
          rfl)
        have hez : ((k : Int) == (l.length : Int)) = true := by simp; omega
        clear hN hb hq hend HRS
        go_wp2_with fail
        refine HI.out.mono ?_
        rintro e w1 ⟨rfl, hN9⟩
        clear HI
        obtain ⟨n0, n1, n2, n3, n4, n5, hfz⟩ := hN9.o.cells
        have f0 := hfz 0
        have f1 := hfz 1
        have f2 := hfz 2
        have f3 := hfz 3
        have f4 := hfz 4
        have f5 := hfz 5
        have H9 := Lib.hid hN9
        clear hN9 hfz
        go_wp2_with fail
        refine bodyPost_ret (v := trV ((⟨0, (k : Int), (k : Int), 0, 0, []⟩, 0))) (by simp [results, Tryz.results57, go_sem, trV, tokV, strV, wrongT, *]) rfl ?_
        exact ⟨by rw [HR.out], setR H9.out.b (Nat.le_refl _) _ _ _ _ _ _⟩
      have hez : ((k : Int) == (l.length : Int)) = false := by simp; omega
      have hlt : k < l.length := by omega
      have hidx : (⟨l.toArray⟩ : ByteArray)[k]'(by omega) = l.getD k 0 := by
        show l.toArray[k] = _
        simp [List.getD_eq_getElem?_getD, hlt]
      obtain ⟨c, t, hct⟩ : ∃ c t, l.drop k = c :: t := ⟨_, _, List.drop_eq_getElem_cons hlt⟩
      have hcg : l.getD k 0 = c := by
        have := List.drop_eq_getElem_cons hlt
        rw [this] at hct
        obtain ⟨rfl, -⟩ := List.cons.inj hct
        simp [List.getD_eq_getElem?_getD, hlt]
      rw [hcg] at hidx
      have HT := Lib.hid (show res = tokM (c :: t) k by
        have h0 : k = q := by
          rw [← hq.out, blanks_cons hlt]
          rw [blank_one] at hb
          simp only [hlt, decide_true, Bool.true_and] at hb
          rw [hb]
          rfl
        rw [HRS.out, ← h0, hct])
      have HC := Lib.hid hct
      have HG := Lib.hid hcg
      clear hN hb hq hend HRS hct hcg
      go_wp2_with fail
      refine HI.out.mono ?_
      rintro e w1 ⟨rfl, hN1⟩
      clear HI
      have HN1 := Lib.hid hN1
      clear hN1
      have hmz : (⟨#[123, 125, 91, 93, 44, 58]⟩ : ByteArray).size = 6 := rfl
      go_wp2_with fail
      go_loopw [6] (fun i wr => ∃ j : Nat, i = .int .i64 j ∧ j ≤ 6 ∧ NR w wr ∧ Hid (∀ i, i < j → c ≠ marks.getD i 0)) (fun i _ => 6 - (intOf i).toNat)
      case atStart => exact ⟨0, rfl, by omega, HN1.out, Lib.hid (fun i h => by omega)⟩
      case round =>
        clear HN1
        obtain ⟨j, rfl, hj, hN, hm⟩ := hrel
        by_cases hj6 : j < 6
        · have hjz : (j : Int) < 6 := by omega
          have hidx2 := mark_idx hj6 (by omega)
          have q1 : IntKind.i64.wrap ((j : Int) + 1) = j + 1 := IntWalk.i64_in _ (by omega)
          by_cases hc : c = marks.getD j 0
          · have hcz : ((c.toNat : Int) == ((marks.getD j 0).toNat : Int)) = true := by rw [← hc]; simp
            have q2 : IntKind.i64.wrap ((k : Int) + 1) = k + 1 := IntWalk.i64_in _ (by omega)
            have HR := Lib.hid (show res = (⟨(j : Int) + 1, (k : Int), (k : Int) + 1, 0, 0, []⟩, 0) by rw [HT.out, mark_tok c t k j hj6 hc, Int.add_comm])
            have HN := Lib.hid hN
            clear hN hc hm HT HC HG
            generalize marks.getD j 0 = d at *
            go_wp2_with fail
            go_quiet (fail)
            have hN9 := HN.out
            clear HN
            obtain ⟨n0, n1, n2, n3, n4, n5, hfz⟩ := hN9.o.cells
            have f0 := hfz 0
            have f1 := hfz 1
            have f2 := hfz 2
            have f3 := hfz 3
            have f4 := hfz 4
            have f5 := hfz 5
            have H9 := Lib.hid hN9
            clear hN9 hfz
            go_wp2_with fail
            refine bodyPost_ret (v := trV ((⟨(j : Int) + 1, (k : Int), (k : Int) + 1, 0, 0, []⟩, 0))) (by simp [results, Tryz.results57, go_sem, trV, tokV, strV, wrongT, *]) rfl ?_
            exact ⟨by rw [HR.out], setR (below_drewN H9.out.b _) (Nat.le_refl _) _ _ _ _ _ _⟩
          · have hcz : ((c.toNat : Int) == ((marks.getD j 0).toNat : Int)) = false := by
              simp only [beq_eq_false_iff_ne, ne_eq, Int.natCast_inj]
              exact fun e => hc (UInt8.toNat_inj.1 e)
            have HM := Lib.hid (show ∀ i, i < j + 1 → c ≠ marks.getD i 0 from fun i hi => by
              by_cases h : i = j
              · rw [h]; exact hc
              · exact hm.out i (by omega))
            have HN := Lib.hid hN
            clear hN hc hm
            generalize marks.getD j 0 = d at *
            go_wp2_with fail
            go_quiet (fail)
            go_wp2_with fail
            go_roundw
            case rel => exact ⟨j + 1, by go_num, by omega, HN.out.quiet (below_drewN (Below.refl _ _) _), HM⟩
            case measure => simp only [intOf]; omega
        · have hjz : ¬ (j : Int) < 6 := by omega
          have HM := Lib.hid (show ∀ i, i < 6 → c ≠ marks.getD i 0 from fun i hi => hm.out i (by omega))
          have HN := Lib.hid hN
          clear hN hm
          go_wp2_with fail
          go_loopw [8] (fun i wx => ∃ j : Nat, i = .int .i64 j ∧ j ≤ 3 ∧ NW w wr.heap.size wx ∧ Hid (∀ i, i < j → c ≠ (wds.getD i []).getD 0 0)) (fun i _ => 3 - (intOf i).toNat)
          case atStart => exact ⟨0, rfl, by omega, ⟨HN.out.quiet ((Below.refl _ _).alloc (Nat.le_refl _) _), by simp, heap_alloc_new _ _⟩, Lib.hid (fun i h => by omega)⟩
          case round =>
            generalize wr.heap.size = S at *
            clear HN hjz hj6 hj
            obtain ⟨y, rfl, hy, hN, hm⟩ := hrel
            by_cases hy3 : y < 3
            · have hyz : (y : Int) < 3 := by omega
              have kc := hN.cell hy3
              obtain ⟨hx0, hx5, hxs⟩ := wd_facts hy3 c
              have HX := Lib.hid hxs
              have HMe := Lib.hid (fun (h : c ≠ (wds.getD y []).getD 0 0) => show ∀ i, i < y + 1 → c ≠ (wds.getD i []).getD 0 0 from fun i hi => by
                by_cases e : i = y
                · rw [e]; exact h
                · exact hm.out i (by omega))
              have HN := Lib.hid hN
              clear hxs hN hm
              generalize wds.getD y [] = x at *
              have hsx : (⟨x.toArray⟩ : ByteArray).size = x.length := by simp [ByteArray.size]
              have hx0z : (0 : Int) < (x.length : Int) := by omega
              have hidx2 : (⟨x.toArray⟩ : ByteArray)[0]'(by omega) = x.getD 0 0 := by
                show x.toArray[0] = _
                simp [List.getD_eq_getElem?_getD, hx0]
              have q1 : IntKind.i64.wrap ((y : Int) + 1) = y + 1 := IntWalk.i64_in _ (by omega)
              by_cases hc : c = x.getD 0 0
              · have hcz : ((c.toNat : Int) == ((x.getD 0 0).toNat : Int)) = true := by rw [← hc]; simp
                have hnz : ((c.toNat : Int) != ((x.getD 0 0).toNat : Int)) = false := by rw [← hc]; simp
                have HT2 := Lib.hid (show res = wordM x (7 + (y : Int)) (l.drop k) k by rw [HT.out, HC.out, tokM, HX.out hc])
                clear HMe HX hc HT
                generalize x.getD 0 0 = d at *
                go_wp2_with fail
                go_quiet (fail)
                go_wp2_with fail
                have hcle := wcommon_le x (l.drop k)
                go_loopw [10] (fun i wx => ∃ m : Nat, i = .int .i64 m ∧ m ≤ commonN x (l.drop k) ∧ NR w wx) (fun i _ => x.length - (intOf i).toNat)
                case atStart => exact ⟨0, rfl, Nat.zero_le _, HN.out.n.quiet (below_drewN (Below.refl _ _) _)⟩
                case round =>
                  clear HN
                  obtain ⟨m, rfl, hm, hN⟩ := hrel
                  by_cases hmx : m < x.length
                  · have hmz : (m : Int) < (x.length : Int) := by omega
                    have how := one_word (l := l) (a := k) hm hmx
                    have hsl := fun W => one_slice hmx W
                    obtain ⟨km, hkm⟩ : ∃ z, z = k + m := ⟨_, rfl⟩
                    have q2 : IntKind.i64.wrap ((k : Int) + (m : Int)) = km := by rw [IntWalk.i64_in _ (by omega)]; omega
                    have q3 : IntKind.i64.wrap ((m : Int) + 1) = m + 1 := IntWalk.i64_in _ (by omega)
                    rw [← hkm] at how
                    by_cases hmc : m < commonN x (l.drop k)
                    · rw [decide_eq_true hmc] at how
                      have hkl := one_lt how
                      have HI := Lib.hid (hN.yes how hl (by simp) (by omega))
                      have HM4 := Lib.hid (show m + 1 ≤ commonN x (l.drop k) by omega)
                      unfold strV at HI
                      clear hN how hkm hm hmc
                      generalize x.getD m 0 = dm at *
                      go_wp2_with fail
                      refine HI.out.mono ?_
                      rintro e w4 ⟨rfl, hN4⟩
                      clear HI
                      have HN4 := Lib.hid hN4
                      clear hN4
                      go_wp2_with fail
                      go_roundw
                      case rel => exact ⟨m + 1, by go_num, HM4.out, HN4.out⟩
                      case measure =>
                        first
                          | (simp only [intOf]; omega)
                          | (simp [intOf]; omega)
                    · rw [decide_eq_false hmc] at how
                      have HR := Lib.hid (show res = wrongT (km : Int) 100 by
                        rw [HT2.out]
                        unfold wordM
                        have : commonN x (l.drop k) = m := by omega
                        rw [this, if_neg (by omega), hkm]
                        rfl)
                      have HI := Lib.hid (hN.no how hl (by simp) (by omega))
                      unfold strV at HI
                      clear hN how hm hmc HT2 hkm
                      generalize x.getD m 0 = dm at *
                      go_wp2_with fail
                      refine HI.out.mono ?_
                      rintro e w4 ⟨rfl, hN⟩
                      clear HI
                      have HN := Lib.hid hN
                      clear hN
                      go_wp2_with fail
                      refine (HN.out.wrong _ _).mono ?_
                      rintro o w9 ⟨rfl, hN9⟩
                      clear HN
                      obtain ⟨n0, n1, n2, n3, n4, n5, hfz⟩ := hN9.o.cells
                      have f0 := hfz 0
                      have f1 := hfz 1
                      have f2 := hfz 2
                      have f3 := hfz 3
                      have f4 := hfz 4
                      have f5 := hfz 5
                      have H9 := Lib.hid hN9
                      clear hN9 hfz
                      go_wp2_with fail
                      refine bodyPost_ret (v := trV (wrongT (km : Int) 100)) (by simp [results, Tryz.results57, go_sem, trV, tokV, strV, wrongT, *]) rfl ?_
                      exact ⟨by rw [HR.out], setR H9.out.b (Nat.le_refl _) _ _ _ _ _ _⟩
                  · have hmz : ¬ (m : Int) < (x.length : Int) := by omega
                    obtain ⟨kx, hkx⟩ : ∃ z, z = k + x.length := ⟨_, rfl⟩
                    have hxl : x.length ≤ (l.drop k).length := by
                      have h := wcommon_at x (l.drop k) (x.length - 1) (by omega) (by omega)
                      have := (h.1 (by omega)).1
                      omega
                    rw [List.length_drop] at hxl
                    have q2 : IntKind.i64.wrap ((k : Int) + (x.length : Int)) = kx := by rw [IntWalk.i64_in _ (by omega)]; omega
                    have q4 : IntKind.i64.wrap (7 + (y : Int)) = 7 + y := IntWalk.i64_in _ (by omega)
                    have HR := Lib.hid (show res = (⟨7 + (y : Int), (k : Int), (kx : Int), 0, 0, []⟩, 0) by
                      rw [HT2.out]
                      unfold wordM
                      rw [if_pos (by omega), hkx]
                      rfl)
                    have hN9 := hN
                    clear hN hm HT2 hkx hxl
                    obtain ⟨n0, n1, n2, n3, n4, n5, hfz⟩ := hN9.o.cells
                    have f0 := hfz 0
                    have f1 := hfz 1
                    have f2 := hfz 2
                    have f3 := hfz 3
                    have f4 := hfz 4
                    have f5 := hfz 5
                    have H9 := Lib.hid hN9
                    clear hN9 hfz
                    go_wp2_with fail
                    refine bodyPost_ret (v := trV ((⟨7 + (y : Int), (k : Int), (kx : Int), 0, 0, []⟩, 0))) (by simp [results, Tryz.results57, go_sem, trV, tokV, strV, wrongT, *]) rfl ?_
                    exact ⟨by rw [HR.out], setR H9.out.b (Nat.le_refl _) _ _ _ _ _ _⟩
              · have hcz : ((c.toNat : Int) == ((x.getD 0 0).toNat : Int)) = false := by
                  simp only [beq_eq_false_iff_ne, ne_eq, Int.natCast_inj]
                  exact fun e => hc (UInt8.toNat_inj.1 e)
                have HM3 := Lib.hid (HMe.out hc)
                clear HMe HX hc
                generalize x.getD 0 0 = d at *
                go_wp2_with fail
                go_quiet (fail)
                go_wp2_with fail
                go_roundw
                case rel => exact ⟨y + 1, by go_num, by omega, HN.out.quiet (below_drewN (Below.refl _ _) _), HM3⟩
                case measure => simp only [intOf]; omega
            · have hyz : ¬ (y : Int) < 3 := by omega
              have HS := Lib.hid (spell_none HM.out (fun i hi => hm.out i (by omega)))
              have hN0 := hN.n
              clear hN hm HM
              have HT2 := Lib.hid (show res = if c = 34 then litM (l.drop k) k else if c = 45 ∨ digB c = true then numM (l.drop k) k else wrongT k 100 by rw [HT.out, HC.out, tokM, HS.out])
              have hnum : oneB l [45, 48, 49, 50, 51, 52, 53, 54, 55, 56, 57] k = decide (c = 45 ∨ digB c = true) := by
                unfold oneB
                rw [HG.out, decide_eq_true hlt, Bool.true_and]
                have hall : ∀ n : Fin 256, [45, 48, 49, 50, 51, 52, 53, 54, 55, 56, 57].contains (UInt8.ofNat n.val) = decide (UInt8.ofNat n.val = 45 ∨ digB (UInt8.ofNat n.val) = true) := by decide +kernel
                have := hall ⟨c.toNat, c.toNat_lt⟩
                simpa using this
              by_cases hcn : c = 45 ∨ digB c = true
              · rw [decide_eq_true hcn] at hnum
                have HR := Lib.hid (show res = numS l k by
                  have h34 : ¬ c = 34 := by rintro rfl; revert hcn; decide
                  rw [HT2.out, if_neg h34, if_pos hcn, numS_eq])
                have HI := Lib.hid (hN0.yes hnum hl (by decide) (by omega))
                unfold strV at HI
                clear hN0 hnum hcn HT2 HS HG HC HT
                go_wp2_with fail
                refine HI.out.mono ?_
                rintro e w4 ⟨rfl, hN⟩
                clear HI
                have HN := Lib.hid hN
                clear hN
                have HNU := Lib.hid (fun W => rnumber_any l k W hl hk)
                unfold strV at HNU
                go_wp2_with fail
                refine (HNU.out _).mono ?_
                rintro o w9 ⟨rfl, hb9⟩
                have hN9 := HN.out.quiet hb9
                clear HN HNU hb9
                generalize numS l k = tr at *
                obtain ⟨tk, te⟩ := tr
                simp only [trV, tokV, strV]
                obtain ⟨n0, n1, n2, n3, n4, n5, hfz⟩ := hN9.o.cells
                have f0 := hfz 0
                have f1 := hfz 1
                have f2 := hfz 2
                have f3 := hfz 3
                have f4 := hfz 4
                have f5 := hfz 5
                have H9 := Lib.hid hN9
                clear hN9 hfz
                go_wp2_with fail
                refine bodyPost_ret (v := trV ((tk, te))) (by simp [results, Tryz.results57, go_sem, trV, tokV, strV, wrongT, *]) rfl ?_
                exact ⟨by rw [HR.out], setR H9.out.b (Nat.le_refl _) _ _ _ _ _ _⟩
              · rw [decide_eq_false hcn] at hnum
                have HI := Lib.hid (hN0.no hnum hl (by decide) (by omega))
                unfold strV at HI
                by_cases h34 : c = 34
                · have hc34 : ((c.toNat : Int) == 34) = true := by rw [h34]; rfl
                  have hz34 : c.toNat = 34 := by rw [h34]; rfl
                  have HL := Lib.hid (show res = litM (l.drop k) k by rw [HT2.out, if_pos h34])
                  have HV := Lib.hid (fun W => HU.out (l.drop k) W (by rw [List.length_drop]; omega))
                  have hbd := unq_bd (l.drop k)
                  rw [List.length_drop] at hbd
                  have hsf := fun W => sub_from l k hk W
                  unfold litM at HL
                  unfold strV at HV
                  clear hN0 hnum hcn HT2 HS HG HC HT h34
                  generalize unqM (l.drop k) = un at *
                  obtain ⟨tx, n1, n2, er⟩ := un
                  dsimp only at hbd HL HV
                  obtain ⟨p2, hp2⟩ : ∃ z : Int, z = (k : Int) + n2 := ⟨_, rfl⟩
                  obtain ⟨p1, hp1⟩ : ∃ z : Int, z = (k : Int) + n1 := ⟨_, rfl⟩
                  have q1 : IntKind.i64.wrap ((k : Int) + n2) = p2 := by rw [hp2]; exact IntWalk.i64_in _ (by omega)
                  have q2 : IntKind.i64.wrap ((k : Int) + n1) = p1 := by rw [hp1]; exact IntWalk.i64_in _ (by omega)
                  rw [← hp1, ← hp2] at HL
                  clear hp1 hp2 hbd
                  by_cases her : er = 0
                  · have HR := Lib.hid (show res = (⟨12, (k : Int), p1, 0, 0, tx⟩, 0) by rw [HL.out, if_neg (by simp [her])])
                    have hez2 : (er == 0) = true := by simp [her]
                    clear HL her
                    go_wp2_with fail
                    refine HI.out.mono ?_
                    rintro e w4 ⟨rfl, hN⟩
                    clear HI
                    have HN := Lib.hid hN
                    clear hN
                    go_wp2_with fail
                    refine (HV.out _).mono ?_
                    rintro o w9 ⟨rfl, hb9⟩
                    have hN9 := HN.out.quiet hb9
                    clear HN HV hb9
                    obtain ⟨n0, n1, n2, n3, n4, n5, hfz⟩ := hN9.o.cells
                    have f0 := hfz 0
                    have f1 := hfz 1
                    have f2 := hfz 2
                    have f3 := hfz 3
                    have f4 := hfz 4
                    have f5 := hfz 5
                    have H9 := Lib.hid hN9
                    clear hN9 hfz
                    go_wp2_with fail
                    refine bodyPost_ret (v := trV ((⟨12, (k : Int), p1, 0, 0, tx⟩, 0))) (by simp [results, Tryz.results57, go_sem, trV, tokV, strV, wrongT, *]) rfl ?_
                    exact ⟨by rw [HR.out], setR H9.out.b (Nat.le_refl _) _ _ _ _ _ _⟩
                  · have HR := Lib.hid (show res = wrongT p2 er by rw [HL.out, if_pos her])
                    have hez2 : (er == 0) = false := by simp [her]
                    clear HL her
                    go_wp2_with fail
                    refine HI.out.mono ?_
                    rintro e w4 ⟨rfl, hN⟩
                    clear HI
                    have HN := Lib.hid hN
                    clear hN
                    go_wp2_with fail
                    refine (HV.out _).mono ?_
                    rintro o w8 ⟨rfl, hb8⟩
                    have HN8 := Lib.hid (HN.out.quiet hb8)
                    clear HN HV hb8
                    go_wp2_with fail
                    refine (HN8.out.wrong _ _).mono ?_
                    rintro o w9 ⟨rfl, hN9⟩
                    clear HN8
                    obtain ⟨n0, n1, n2, n3, n4, n5, hfz⟩ := hN9.o.cells
                    have f0 := hfz 0
                    have f1 := hfz 1
                    have f2 := hfz 2
                    have f3 := hfz 3
                    have f4 := hfz 4
                    have f5 := hfz 5
                    have H9 := Lib.hid hN9
                    clear hN9 hfz
                    go_wp2_with fail
                    refine bodyPost_ret (v := trV (wrongT p2 er)) (by simp [results, Tryz.results57, go_sem, trV, tokV, strV, wrongT, *]) rfl ?_
                    exact ⟨by rw [HR.out], setR H9.out.b (Nat.le_refl _) _ _ _ _ _ _⟩
                · have HR := Lib.hid (show res = wrongT (k : Int) 100 by rw [HT2.out, if_neg h34, if_neg hcn])
                  have hc34 : ((c.toNat : Int) == 34) = false := by
                    simp only [beq_eq_false_iff_ne, ne_eq]
                    intro e
                    exact h34 (UInt8.toNat_inj.1 (show c.toNat = 34 by omega))
                  clear hN0 hnum hcn HT2 HS HG HC HT h34
                  go_wp2_with fail
                  refine HI.out.mono ?_
                  rintro e w4 ⟨rfl, hN⟩
                  clear HI
                  have HN := Lib.hid hN
                  clear hN
                  go_wp2_with fail
                  refine (HN.out.wrong _ _).mono ?_
                  rintro o w9 ⟨rfl, hN9⟩
                  clear HN
                  obtain ⟨n0, n1, n2, n3, n4, n5, hfz⟩ := hN9.o.cells
                  have f0 := hfz 0
                  have f1 := hfz 1
                  have f2 := hfz 2
                  have f3 := hfz 3
                  have f4 := hfz 4
                  have f5 := hfz 5
                  have H9 := Lib.hid hN9
                  clear hN9 hfz
                  go_wp2_with fail
                  refine bodyPost_ret (v := trV (wrongT (k : Int) 100)) (by simp [results, Tryz.results57, go_sem, trV, tokV, strV, wrongT, *]) rfl ?_
                  exact ⟨by rw [HR.out], setR H9.out.b (Nat.le_refl _) _ _ _ _ _ _⟩
end
end Go.Proofs.YtccmhhmdenfecaaGreatDoor
