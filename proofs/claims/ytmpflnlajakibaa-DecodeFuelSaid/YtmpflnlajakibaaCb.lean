/- The walk of decode.walker's keys. -/
import Derived.Test.YtmpflnlajakibaaCa
import Derived.Test.YtmpflnlajakibaaLess
namespace Go.Proofs.Ytmpflnlajakibaa
set_option linter.unusedVariables false
set_option linter.unusedSimpArgs false
set_option linter.unusedSectionVars false
open Go.RowKit
theorem dlat14 {D : List UInt8} {p q k i : Int} (he : lfindE D p q 14 k = 0) (h0 : 0 ≤ i) (h1 : i < lCnt D p q 14 k) :
    latE D p q 14 k i = 0 ∧ latP D p q 14 k i = lAt D p q 14 k + i * k ∧ latQ D p q 14 k i = k ∧ latT D p q 14 k i = 4 ∧ latW D p q 14 k i = k := by
  have hg : tagB 14 = false := rfl
  have hi : ¬ (i < 0 ∨ lCnt D p q 14 k ≤ i) := by omega
  have e1 : latE D p q 14 k i = 0 := by simp [latE, he, hi, hg]
  refine ⟨e1, by simp [latP, e1], by simp [latQ, e1], ?_, by simp [latW, e1, hg]⟩
  simp [latT, e1, hg]; rfl
theorem delem_legal {t : Int} (h : vecB t = true) : legalB (elemOf t) = true := by
  by_cases ho : t < 0 ∨ 37 ≤ t
  · simp [vecB, isOf_out ho] at h
  have h37 : t = 0 ∨ t = 1 ∨ t = 2 ∨ t = 3 ∨ t = 4 ∨ t = 5 ∨ t = 6 ∨ t = 7 ∨ t = 8 ∨ t = 9 ∨ t = 10 ∨ t = 11 ∨ t = 12 ∨ t = 13 ∨ t = 14 ∨ t = 15 ∨ t = 16 ∨ t = 17 ∨ t = 18 ∨ t = 19 ∨ t = 20 ∨ t = 21 ∨ t = 22 ∨ t = 23 ∨ t = 24 ∨ t = 25 ∨ t = 26 ∨ t = 27 ∨ t = 28 ∨ t = 29 ∨ t = 30 ∨ t = 31 ∨ t = 32 ∨ t = 33 ∨ t = 34 ∨ t = 35 ∨ t = 36 := by omega
  rcases h37 with rfl | rfl | rfl | rfl | rfl | rfl | rfl | rfl | rfl | rfl | rfl | rfl | rfl | rfl | rfl | rfl | rfl | rfl | rfl | rfl | rfl | rfl | rfl | rfl | rfl | rfl | rfl | rfl | rfl | rfl | rfl | rfl | rfl | rfl | rfl | rfl | rfl
  all_goals first | rfl | (revert h; decide)
/-- The reference that list.At finds may be read. -/
theorem dlat_may {L : List UInt8} {p q t k i : Int} (h : latE L p q t k i = 0) : mayE L.length (latP L p q t k i) (latQ L p q t k i) (latT L p q t k i) (latW L p q t k i) = 0 ∧ lfindE L p q t k = 0 ∧ 0 ≤ i ∧ i < lCnt L p q t k := by
  have he : lfindE L p q t k = 0 := by
    by_cases he : lfindE L p q t k = 0
    · exact he
    · simp [latE, he] at h
  have hi : ¬ (i < 0 ∨ lCnt L p q t k ≤ i) := by
    intro hi; simp [latE, he, hi] at h
  obtain ⟨g0, gv, g1, -, g2, g3, g4, g5, g6, -, -⟩ := lfindE_zero he
  obtain ⟨-, -, hk, -, -, -, k1, k8, -⟩ := mayE_zero (targetE_zero g0).1
  refine ⟨?_, he, by omega, by omega⟩
  have e1 : latP L p q t k i = lAt L p q t k + i * k := by simp [latP, h]
  have e2 : latQ L p q t k i = k := by simp [latQ, h]
  have ht := tagsOf_bd t
  have y1 : lCnt L p q t k * (k + tagsOf t) = lCnt L p q t k * k + lCnt L p q t k * tagsOf t := by rw [Int.mul_add]
  have y2 : 0 ≤ lCnt L p q t k * tagsOf t := Int.mul_nonneg g3 ht.1
  have y3 : (i + 1) * k ≤ lCnt L p q t k * k := Int.mul_le_mul_of_nonneg_right (by omega) (by omega)
  have y4 : (i + 1) * k = i * k + k := by rw [Int.add_mul, Int.one_mul]
  have y5 : 0 ≤ i * k := Int.mul_nonneg (by omega) (by omega)
  have hlw : legalB (latT L p q t k i) = true ∧ wideB (latW L p q t k i) = true := by
    cases hg : tagB t with
    | true =>
      have hu : unpackE (tagY L p q t k i) = 0 := by
        have hh := h
        simp only [latE, he, hi, hg, ne_eq, not_true_eq_false, if_false, if_true] at hh
        exact hh
      have hl : legalB (((tagY L p q t k i).toNat : Int) / 4) = true := by
        by_cases hl : legalB (((tagY L p q t k i).toNat : Int) / 4) = true
        · exact hl
        · simp [unpackE, hl] at hu
      have e3 : latT L p q t k i = ((tagY L p q t k i).toNat : Int) / 4 := by simp [latT, h, hg, unpackT, hl]
      have e4 : latW L p q t k i = 2 ^ ((tagY L p q t k i).toNat % 4) := by simp [latW, h, hg, unpackW, hl]
      rw [e3, e4]
      refine ⟨hl, ?_⟩
      have h4 : (tagY L p q t k i).toNat % 4 < 4 := Nat.mod_lt _ (by omega)
      generalize (tagY L p q t k i).toNat % 4 = m at h4
      have : m = 0 ∨ m = 1 ∨ m = 2 ∨ m = 3 := by omega
      rcases this with rfl | rfl | rfl | rfl <;> decide
    | false =>
      have hv : vecB t = true := by simpa [vectorB, hg] using gv
      have e3 : latT L p q t k i = elemOf t := by simp [latT, h, hg]
      have e4 : latW L p q t k i = k := by simp [latW, h, hg]
      rw [e3, e4]
      exact ⟨delem_legal hv, hk⟩
  unfold mayE
  have hin : insideB L.length (latP L p q t k i) (latQ L p q t k i) = true := by
    rw [e1, e2]
    simp only [insideB, Bool.and_eq_true, decide_eq_true_eq]
    omega
  rw [hlw.1, hlw.2, e2, hk]
  rw [e2] at hin
  simp [hin]
theorem kr_spec (D : List UInt8) (k f a0 : Int) : match krefD D k f with
    | .error (a, e) => tgtE D f k 14 (kwOf D k f) f (krE2 D k f) = e ∧ tgtA D f k 14 (kwOf D k f) f (krE2 D k f) (krA2 D k f a0) = a ∧ e ≠ 0
    | .ok a => tgtE D f k 14 (kwOf D k f) f (krE2 D k f) = 0 ∧ tgtX D f k 14 (kwOf D k f) f = a ∧ wideB (kwOf D k f) = true := by
  unfold krefD tgtE tgtA tgtX krE2 krA2 krE1 krA1 tellE tellA
  by_cases h1 : f < loadV D f k
  · rw [if_pos h1]
    by_cases h2 : wideB (kwOf D k f) = true <;> by_cases h3 : tgtB D f k 14 (kwOf D k f) f = true <;> simp [h1, h2, h3]
  · rw [if_neg h1]
    by_cases h2 : wideB (kwOf D k f) = true
    · rw [if_neg (by simp [h2])]
      by_cases h3 : tgtB D f k 14 (kwOf D k f) f = true <;> simp [h1, h2, h3]
    · rw [if_pos (by simpa using h2)]
      by_cases h3 : tgtB D f k 14 (kwOf D k f) f = true <;> simp [h1, h2, h3]
def KyPost (ty : TypeId) (w : World) (lk b o n cap : Nat) (D : List UInt8) (dp fu : Int) (r : DR (List (List UInt8))) (en : Ending) (w' : World) : Prop := match r with
  | .ok ks => ∃ kv a', en = .returned kv ∧ w'.ownsRow w.heap.size 9 1 kv ks.length (ks.map strV) ∧ DSt ty w' lk b o n cap D dp fu a' 0 ∧ Touch [lk] w w'
  | .error (a, e) => ∃ A m c, en = .returned (.slice A m c) ∧ e ≠ 0 ∧ DSt ty w' lk b o n cap D dp fu a e ∧ Touch [lk] w w'
theorem strinfo : (Try.prog.info? 9).map (fun i => (i.zero, i.size, i.bytes)) = some (some (.string ⟨#[]⟩), 1, 16) := by kernel_rfl
theorem one_at {w : World} {g : Nat} {u : Value} {e : TypeId} {fr : Nat × Nat} (h : w.heap[g]? = some (.cells #[u] e fr)) : ∀ j x, [u][j]? = some x → w.cell? ((⟨g, 0, none⟩ : Addr).add j) = some x := by
  intro j x hj
  have : j = 0 := by
    cases j with
    | zero => rfl
    | succ j => simp at hj
  subst this
  have := cell_of_row w g 0 #[u] e fr h
  simp at hj
  subst hj
  simpa [Addr.add] using this
theorem owns_ptr {w : World} {B : Nat} {e : TypeId} {sz n : Nat} {v : Value} {xs : List Value} (h : w.ownsRow B e sz v n xs) : ∃ A c, v = .slice A n c := by
  rcases h.2 with ⟨rfl, rfl⟩ | ⟨g, c, cur, rfl, -⟩
  · exact ⟨_, _, rfl⟩
  · exact ⟨_, _, rfl⟩
theorem owns_base {w : World} {B B' : Nat} {e : TypeId} {sz n : Nat} {v : Value} {xs : List Value} (h : w.ownsRow B e sz v n xs) (hb : B' ≤ B) : w.ownsRow B' e sz v n xs := by
  refine ⟨h.1, ?_⟩
  rcases h.2 with hn | ⟨g, c, cur, hv, hg, rest⟩
  · exact .inl hn
  · exact .inr ⟨g, c, cur, hv, Nat.le_trans hb hg, rest⟩
theorem dtell_ok {w : World} {lk b o n cap : Nat} {D : List UInt8} {dp fu at_ : Int} (h : DSt 76 w lk b o n cap D dp fu at_ 0) (a : Int) :
    Calls Try.prog 64 #[.pointer (some ⟨lk, 0, none⟩), .int .i64 a, .int .i64 0] w fun en w' => en = .returned (.bool true) ∧ DSt 76 w' lk b o n cap D dp fu a 0 ∧ Touch [lk] w w' := dtell h a 0
theorem dtell_no {w : World} {lk b o n cap : Nat} {D : List UInt8} {dp fu at_ : Int} (h : DSt 76 w lk b o n cap D dp fu at_ 0) (a x : Int) (hx : x ≠ 0) :
    Calls Try.prog 64 #[.pointer (some ⟨lk, 0, none⟩), .int .i64 a, .int .i64 x] w fun en w' => en = .returned (.bool false) ∧ DSt 76 w' lk b o n cap D dp fu a x ∧ Touch [lk] w w' := by
  have := dtell h a x
  rw [show (tellE 0 x == 0) = false by simpa [tellE] using hx] at this
  exact this
theorem own_touch {w w' : World} {B lk : Nat} {ty : TypeId} {sz m : Nat} {v : Value} {xs : List Value} (h : w.ownsRow B ty sz v m xs) (ht : Touch [lk] w w') (hb : lk < B) : w'.ownsRow B ty sz v m xs :=
  own_same2 h fun i hi => by
    have := h.lt i (by simpa [blkL] using hi)
    exact ht.block i this.2 (by simp; omega)
theorem touch_grown {T : List Nat} {a W w3 : World} {row : Option Nat} (h : Touch T a W) (hg : W.grownBy w3 row) (hrow : ∀ k, row = some k → a.heap.size ≤ k) : Touch T a w3 :=
  ⟨hg.os.trans h.os, hg.tape.trans h.tape, hg.output.trans h.output, Nat.le_trans h.size hg.size, fun i hi hn => (hg.block i (Nat.lt_of_lt_of_le hi h.size) (fun e => by have := hrow i e.symm; omega)).trans (h.block i hi hn)⟩
theorem DSt.grown {ty : TypeId} {W w3 : World} {lk b o n cap : Nat} {D : List UInt8} {dp fu at_ e : Int} {row : Option Nat} (h : DSt ty W lk b o n cap D dp fu at_ e) (hg : W.grownBy w3 row) (h1 : row ≠ some lk) (h2 : row ≠ some b) : DSt ty w3 lk b o n cap D dp fu at_ e :=
  ⟨(hg.block _ h.lkt (fun e => h1 e.symm)).trans h.row, ⟨h.doc.len, h.doc.le, h.doc.max, h.doc.sm, fun i hi => by
    rw [World.cell?_of_block (w := W) (w' := w3) (a := ⟨b, o + i, none⟩) (hg.block b h.doc.lt (fun e => h2 e.symm))]; exact h.doc.at_ i hi, Nat.lt_of_lt_of_le h.doc.lt hg.size⟩, h.ne⟩
/-- The last string of a row. -/
theorem row_last {w : World} {B : Nat} {v : Value} {acc : List (List UInt8)} (h : w.ownsRow B 9 1 v acc.length (acc.map strV)) (j : Nat) (hj : acc.length = j + 1) :
    ∃ g c, v = .slice (some ⟨g, 0, none⟩) (j + 1) c ∧ w.cell? ⟨g, j, none⟩ = some (strV (acc.getD j [])) ∧ j + 1 ≤ c := by
  rcases h.2 with ⟨rfl, hx⟩ | ⟨g, c, cur, rfl, hb, hg, hn, hm, hsz, hxs⟩
  · rw [hx] at hj; simp at hj
  · refine ⟨g, c, by rw [hj], ?_, by omega⟩
    rw [h.cellAt j (by omega), List.getElem?_map, List.getD_eq_getElem?_getD, List.getElem?_eq_getElem (by omega)]
    rfl
def HypAtK (b o n cap : Nat) (D : List UInt8) (f k kw j P : Int) : Prop := ∀ W, Doc W b o n cap D → Calls Try.prog 23 #[.slice (some ⟨b, o, none⟩) n cap, .agg #[.int .i64 f, .int .i64 k, .int .i64 14, .int .i64 kw], .int .i64 j] W fun en w' =>
  en = .returned (.tuple #[.agg #[.int .i64 P, .int .i64 kw, .int .i64 4, .int .i64 kw], .int .i64 0]) ∧ Below W.heap.size W w'
section
variable {w : World} {lk b o n cap : Nat} {D : List UInt8} {dp fu a0 : Int}
set_option maxHeartbeats 8000000 in
set_option maxRecDepth 100000 in
theorem dkeys (h : DSt 76 w lk b o n cap D dp fu a0 0) (p q k f m : Int) (hk : wideB k = true) (h0 : 0 ≤ f) (h1 : f + 3 * k ≤ n) (hm0 : 0 ≤ m) (r : DR (List (List UInt8))) (hr : keysD D k f m = r) :
    Calls Try.prog 104 #[.pointer (some ⟨lk, 0, none⟩), .agg #[.int .i64 p, .int .i64 q, .int .i64 9, .int .i64 k], .int .i64 f, .int .i64 m] w (KyPost 76 w lk b o n cap D dp fu r) := by
  have hlow := h.low
  have hD := h.doc
  obtain ⟨hn1, hn2⟩ := hD.bd
  have hbw := hlow.b
  have hlw := hlow.l
  have hkb := wideB_bd hk
  have w09 : 0 ≤ kwOf D k f ∧ kwOf D k f ≤ 9 := by have := loadV_nonneg D (f + k) k; unfold kwOf; omega
  have HK := Lib.hid (fun W (hW : DSt 76 W lk b o n cap D dp fu a0 0) => dkref hW p q k f hk h0 h1)
  have hsp := kr_spec D k f a0
  unfold keysD at hr
  unfold KrPost at HK
  generalize tgtA D f k 14 (kwOf D k f) f (krE2 D k f) (krA2 D k f a0) = A3 at *
  generalize tgtE D f k 14 (kwOf D k f) f (krE2 D k f) = E3 at *
  generalize tgtX D f k 14 (kwOf D k f) f = X3 at *
  have hHR := Lib.hid hr
  have hSP := Lib.hid hsp
  have hHK := Lib.hid hk
  clear hr hsp hk
  go_enter Try.func104, Try.ntmps104
  go_upto_region 2 with (go_at_call 125; refine (HK.out _ (h.keep hlow zw (Nat.le_refl _))).mono ?_; rintro e w1 ⟨rfl, hv1, ht1⟩)
  have hs1 := ht1.size
  rw [World.size_alloc] at hs1
  refine wp_named (fun wn => DSt 76 wn lk b o n cap D dp fu A3 E3 ∧ Touch [lk] w wn ∧ w.heap.size ≤ w1.heap.size ∧ w1.heap.size < wn.heap.size ∧ wn.cell? ⟨w1.heap.size, 0, none⟩ = some (.int .i64 f) ∧ wn.cell? ⟨w1.heap.size, 1, none⟩ = some (.int .i64 k) ∧ wn.cell? ⟨w1.heap.size, 2, none⟩ = some (.int .i64 14) ∧ wn.cell? ⟨w1.heap.size, 3, none⟩ = some (.int .i64 (kwOf D k f))) ⟨hv1.keep hv1.low zw (Nat.le_refl _), Tch.touch (by (repeat' first | (with_reducible first | exact Tch.refl _ _ _ | assumption | refine Tch.alloc ?_ ?_ _ | refine Tch.drew ?_ | refine Tch.drewN ?_ _ | refine Tch.setCell ?_ ?_ _ | refine Tch.setBlock ?_ (by simp) _ | refine tch_call (by assumption) ?_ ?_ | refine tch_below (by assumption) ?_ ?_ | exact zb6 _) | omega | (simp only [zsz, size_setBlock]; omega) | (simp; omega))), by omega, by simp, by go_simp, by go_simp, by go_simp, by go_simp⟩ ?_
  clear hv1 ht1 hs1
  generalize w1.heap.size = X
  rintro wn ⟨hKn, htn, hX0, hX1, z0, z1, z2, z3⟩
  have gln : lk < wn.heap.size := hKn.lkt
  have z4 := hKn.c0
  have z5 := hKn.c4
  cases hkr : krefD D k f with
  | error y =>
    obtain ⟨a, e⟩ := y
    have hr := hHR.out
    have hsp := hSP.out
    rw [hkr] at hr hsp
    obtain ⟨rfl, rfl, he0⟩ := hsp
    obtain rfl : r = .error (A3, E3) := hr.symm
    have he1 : (E3 != 0) = true := by simpa using he0
    have HE0 := Lib.hid he0
    clear he0
    go_wp2
    go_returns
    exact ⟨_, _, _, rfl, HE0.out, hKn, htn⟩
  | ok a =>
    have hr := hHR.out
    have hsp := hSP.out
    rw [hkr] at hr hsp
    obtain ⟨rfl, rfl, hw⟩ := hsp
    have hr : (if lfindE D f k 14 (kwOf D k f) ≠ 0 then Except.error (X3, lfindE D f k 14 (kwOf D k f)) else if lCnt D f k 14 (kwOf D k f) ≠ m then Except.error (X3, 214) else kloopD D f k (kwOf D k f) m.toNat 0 []) = r := hr
    clear hHR hSP HK
    generalize hkw : kwOf D k f = kw at *
    have hDn := hKn.doc
    have HSp := Lib.hid (fun W (hW : Doc W b o n cap D) => span_any b o n cap D f k 14 kw W hW)
    have HLe := Lib.hid (fun W (hW : Doc W b o n cap D) => len_any b o n cap D f k 14 kw W hW)
    have hHr := Lib.hid hr
    clear hr
    go_upto_region 4 with fail
    go_region_held3 (fun w' => w'.cell? ⟨X, 0, none⟩ = some (.int .i64 f) ∧ w'.cell? ⟨X, 1, none⟩ = some (.int .i64 k) ∧ w'.cell? ⟨X, 2, none⟩ = some (.int .i64 14) ∧ w'.cell? ⟨X, 3, none⟩ = some (.int .i64 kw) ∧ w'.cell? ⟨lk, 0, none⟩ = some (.slice (some ⟨b, o, none⟩) n cap)) (first | (with_reducible exact ⟨z0, z1, z2, z3, z4⟩) | (with_reducible exact ⟨k0, k1, k2, k3, k4⟩) | (refine ⟨?_, ?_, ?_, ?_, ?_⟩ <;> go_keep)) (((go_at_call 103; refine (HSp.out _ (hDn.below zw)).mono ?_; rintro e w1 ⟨rfl, hb1⟩; obtain ⟨hc1, hf1, hl1⟩ := bcell hb1; (try simp only [zdz] at hc1 hf1 hl1); have hz1 := hb1.size; (try simp only [zsz] at hz1); (try have g0 : w.heap.size < w1.heap.size := by omega); (try have g1 : w.heap.size + 1 < w1.heap.size := by omega); (try have gl : lk < w1.heap.size := by omega)); (have gX : X < w1.heap.size := by omega)))
    go_upto_region 5 with fail
    have e0 : w1.cell? ⟨X, 0, none⟩ = some (.int .i64 f) := by go_simp
    have e1 : w1.cell? ⟨X, 1, none⟩ = some (.int .i64 k) := by go_simp
    have e2 : w1.cell? ⟨X, 2, none⟩ = some (.int .i64 14) := by go_simp
    have e3 : w1.cell? ⟨X, 3, none⟩ = some (.int .i64 kw) := by go_simp
    have e4 : w1.cell? ⟨lk, 0, none⟩ = some (.slice (some ⟨b, o, none⟩) n cap) := by go_simp
    go_region_held3 (fun w' => w'.cell? ⟨X, 0, none⟩ = some (.int .i64 f) ∧ w'.cell? ⟨X, 1, none⟩ = some (.int .i64 k) ∧ w'.cell? ⟨X, 2, none⟩ = some (.int .i64 14) ∧ w'.cell? ⟨X, 3, none⟩ = some (.int .i64 kw) ∧ w'.cell? ⟨lk, 0, none⟩ = some (.slice (some ⟨b, o, none⟩) n cap)) (first | (with_reducible exact ⟨e0, e1, e2, e3, e4⟩) | (with_reducible exact ⟨k0, k1, k2, k3, k4⟩) | (refine ⟨?_, ?_, ?_, ?_, ?_⟩ <;> go_keep)) (((go_at_call 22; refine (HLe.out _ (hDn.below zw)).mono ?_; rintro e w1 ⟨rfl, hb1⟩; obtain ⟨hc1, hf1, hl1⟩ := bcell hb1; (try simp only [zdz] at hc1 hf1 hl1); have hz1 := hb1.size; (try simp only [zsz] at hz1); (try have g0 : w.heap.size < w1.heap.size := by omega); (try have g1 : w.heap.size + 1 < w1.heap.size := by omega); (try have gl : lk < w1.heap.size := by omega)); (have gX : X < w1.heap.size := by omega)))
    go_upto_region 6 with fail
    refine wp_named (fun wx => Touch [lk] wn wx ∧ ∃ a', DSt 76 wx lk b o n cap D dp fu a' 0) ⟨Touch.quiet zw, _, hKn.keep hKn.low zw (Nat.le_refl _)⟩ ?_
    clear e0 e1 e2 e3 e4 hb1 hc1 hf1 hl1 hz1 gl gX z4 z5
    rintro wx ⟨htx, ax, hKx⟩
    by_cases he : lfindE D f k 14 kw = 0
    rotate_left
    · have hr := hHr.out
      rw [if_pos he] at hr
      subst hr
      have he1 : (tellE 0 (lfindE D f k 14 kw) == 0) = false := by simp [tellE, he]
      have HE := Lib.hid he
      have hA : tellA 0 ax X3 = X3 := rfl
      have hE : tellE 0 (lfindE D f k 14 kw) = lfindE D f k 14 kw := rfl
      clear he hHr
      go_wp2_with (go_at_call 64; refine (dtell_no (hKx.keep hKx.low zw (Nat.le_refl _)) X3 (lfindE D f k 14 kw) HE.out).mono ?_; rintro e w1 ⟨rfl, hv1, ht1⟩)
      go_returns
      exact ⟨_, _, _, rfl, HE.out, hv1, htn.trans (htx.trans (Tch.touch (by (repeat' first | (with_reducible first | exact Tch.refl _ _ _ | assumption | refine Tch.alloc ?_ ?_ _ | refine Tch.drew ?_ | refine Tch.drewN ?_ _ | refine Tch.setCell ?_ ?_ _ | refine Tch.setBlock ?_ (by simp) _ | refine tch_call (by assumption) ?_ ?_ | refine tch_below (by assumption) ?_ ?_ | exact zb6 _) | omega | (simp only [zsz, size_setBlock]; omega) | (simp; omega)))))⟩
    have hr := hHr.out
    rw [if_neg (by simpa using he)] at hr
    have hL := lfindE_zero he
    have hcm : lCnt D f k 14 kw ≤ 1073741824 := by rw [hD.len] at hL; omega
    have Hfe := Lib.hid he
    rw [he]
    have hE0 : tellE 0 0 = 0 := rfl
    by_cases hc : lCnt D f k 14 kw = m
    rotate_left
    · rw [if_pos hc] at hr
      subst hr
      have hc1' : (lCnt D f k 14 kw != m) = true := by simpa using hc
      have ht0 : (tellE 0 0 == 0) = true := rfl
      have ht1' : (tellE (tellE 0 0) 214 == 0) = false := rfl
      clear hc he hHr hL
      go_wp2_with fail
      refine (dtell_ok hKx X3).mono ?_
      rintro e w1 ⟨rfl, hv1, ht1⟩
      go_wp2_with fail
      refine (dtell_no hv1 X3 214 (by decide)).mono ?_
      rintro e w2 ⟨rfl, hv2, ht2⟩
      go_wp2_with fail
      go_returns
      exact ⟨_, _, _, rfl, by decide, hv2, htn.trans (htx.trans (ht1.trans ht2))⟩
    rw [if_neg (by simpa using hc)] at hr
    have hc1' : (lCnt D f k 14 kw != m) = false := by simpa using hc
    have hHl := Lib.hid hr
    have HC := Lib.hid hc
    rw [hc] at hcm
    clear hr hHr hc hL
    go_upto_region 9 with (go_at_call 64; refine (dtell_ok (hKx.keep hKx.low zw (Nat.le_refl _)) X3).mono ?_; rintro e w1 ⟨rfl, hv1, ht1⟩)
    refine wp_named (fun wy => Touch [lk] wn wy ∧ ∃ a', DSt 76 wy lk b o n cap D dp fu a' 0) ⟨htx.trans (Tch.touch (by (repeat' first | (with_reducible first | exact Tch.refl _ _ _ | assumption | refine Tch.alloc ?_ ?_ _ | refine Tch.drew ?_ | refine Tch.drewN ?_ _ | refine Tch.setCell ?_ ?_ _ | refine Tch.setBlock ?_ (by simp) _ | refine tch_call (by assumption) ?_ ?_ | refine tch_below (by assumption) ?_ ?_ | exact zb6 _) | omega | (simp only [zsz, size_setBlock]; omega) | (simp; omega)))), _, hv1.keep hv1.low zw (Nat.le_refl _)⟩ ?_
    clear hv1 ht1 htx hKx
    rintro wy ⟨hty, ay, hKy⟩
    have hXy : X < wy.heap.size := Nat.lt_of_lt_of_le hX1 hty.size
    have hnX : X ∉ [lk] := by simp; omega
    have x0 := (touch_cell hty hX1 hnX 0).trans z0
    have x1 := (touch_cell hty hX1 hnX 1).trans z1
    have x2 := (touch_cell hty hX1 hnX 2).trans z2
    have x3 := (touch_cell hty hX1 hnX 3).trans z3
    have htw := htn.trans hty
    have hSw : w.heap.size ≤ wy.heap.size := htw.size
    clear z0 z1 z2 z3 hDn gln htn hty hKn hX1
    go_loopw [8, 72] (fun v i wr => ∃ (j : Nat) (acc : List (List UInt8)) (a' : Int), (j : Int) ≤ m ∧ i = .int .i64 j ∧ acc.length = j ∧ wr.ownsRow wy.heap.size 9 1 v acc.length (acc.map strV) ∧ DSt 76 wr lk b o n cap D dp fu a' 0 ∧ Touch [lk] wy wr ∧
      kloopD D f k kw (m.toNat - j) j acc = r) (fun _ i _ => m.toNat - (intOf i).toNat)
    case atStart => exact ⟨0, [], ay, by omega, rfl, rfl, ⟨rfl, .inl ⟨rfl, rfl⟩⟩, hKy, Touch.refl _ _, hHl.out⟩
    case round =>
      obtain ⟨j, acc, ar, hj, rfl, hacc, hown, hKr, htr, hl⟩ := hrel
      have hXr : X < wr.heap.size := Nat.lt_of_lt_of_le hXy htr.size
      have y0 := (touch_cell htr hXy hnX 0).trans x0
      have y1 := (touch_cell htr hXy hnX 1).trans x1
      have y2 := (touch_cell htr hXy hnX 2).trans x2
      have y3 := (touch_cell htr hXy hnX 3).trans x3
      have y4 := hKr.c0
      have hDr := hKr.doc
      have gr : lk < wr.heap.size := hKr.lkt
      have htwr := htw.trans htr
      have hSr : wy.heap.size ≤ wr.heap.size := htr.size
      clear hHl x0 x1 x2 x3
      by_cases hlt : (j : Int) < m
      · obtain ⟨r', hr'⟩ : ∃ r', m.toNat - j = r' + 1 := ⟨m.toNat - j - 1, by omega⟩
        have hr2 : m.toNat - (j + 1) = r' := by omega
        obtain ⟨eE, eP, eQ, eT, eW⟩ := dlat14 (i := (j : Int)) Hfe.out (by omega) (by rw [HC.out]; omega)
        have hmay := (dlat_may eE).1
        have HA : Hid (HypAtK b o n cap D f k kw j (lAt D f k 14 kw + j * kw)) := Lib.hid (fun W hW => by
          have hx := lat_any b o n cap D f k 14 kw j W hW
          unfold latV at hx
          rw [eE, eP, eQ, eT, eW] at hx; exact hx)
        rw [hr', kloopD, eP, eQ, eT, eW] at hl
        rw [eP, eQ, eT, eW, hD.len] at hmay
        generalize lAt D f k 14 kw + j * kw = P at hl hmay HA
        obtain ⟨-, -, -, P0, -, -, k1, k8, P1⟩ := mayE_zero hmay
        have hT := Lib.hid (fun W a (hW : DSt 76 W lk b o n cap D dp fu a 0) => dtarget hW P kw 4 kw (lFrom D f k 14 kw) hw P0 P1 (by omega) (by omega))
        have hlh := Lib.hid hl
        clear hmay eE eP eQ eT eW hr' hl
        generalize lFrom D f k 14 kw = lim at *
        have n0 := World.new_ne _ _ y0
        have n4 := World.new_ne _ _ y4
        go_wp2
        go_region_held3 (fun w' => w'.cell? ⟨X, 0, none⟩ = some (.int .i64 f) ∧ w'.cell? ⟨X, 1, none⟩ = some (.int .i64 k) ∧ w'.cell? ⟨X, 2, none⟩ = some (.int .i64 14) ∧ w'.cell? ⟨X, 3, none⟩ = some (.int .i64 kw) ∧ w'.cell? ⟨lk, 0, none⟩ = some (.slice (some ⟨b, o, none⟩) n cap)) (first | (with_reducible exact ⟨y0, y1, y2, y3, y4⟩) | (with_reducible exact ⟨k0, k1, k2, k3, k4⟩) | (refine ⟨?_, ?_, ?_, ?_, ?_⟩ <;> go_keep)) (((go_at_call 23; refine (HA.out _ (hDr.below zw)).mono ?_; rintro e w1 ⟨rfl, hb1⟩; obtain ⟨hc1, hf1, hl1⟩ := bcell hb1; (try simp only [zdz] at hc1 hf1 hl1); have hz1 := hb1.size; (try simp only [zsz] at hz1); (try have g0 : w.heap.size < w1.heap.size := by omega); (try have g1 : w.heap.size + 1 < w1.heap.size := by omega); (try have gl : lk < w1.heap.size := by omega)); (have gX : X < w1.heap.size := by omega); (try have gR : wr.heap.size < w1.heap.size := by omega); (have k0 : w1.cell? ⟨X, 0, none⟩ = some (.int .i64 f) := by go_simp); (have k1 : w1.cell? ⟨X, 1, none⟩ = some (.int .i64 k) := by go_simp); (have k2 : w1.cell? ⟨X, 2, none⟩ = some (.int .i64 14) := by go_simp); (have k3 : w1.cell? ⟨X, 3, none⟩ = some (.int .i64 kw) := by go_simp); (have k4 : w1.cell? ⟨lk, 0, none⟩ = some (.slice (some ⟨b, o, none⟩) n cap) := by go_simp); have m0 := World.new_ne _ _ k0; have m4 := World.new_ne _ _ k4))
        · go_upto_region 12 with fail
          refine wp_named (fun wz => Touch [lk] wr wz ∧ DSt 76 wz lk b o n cap D dp fu ar 0 ∧ wy.heap.size ≤ w1.heap.size ∧ w1.heap.size < wz.heap.size ∧ wz.cell? ⟨w1.heap.size, 0, none⟩ = some (.int .i64 P) ∧ wz.cell? ⟨w1.heap.size, 1, none⟩ = some (.int .i64 kw) ∧ wz.cell? ⟨w1.heap.size, 2, none⟩ = some (.int .i64 4) ∧ wz.cell? ⟨w1.heap.size, 3, none⟩ = some (.int .i64 kw)) ⟨Touch.quiet zw, hKr.keep hKr.low zw (Nat.le_refl _), by omega, by (first | omega | (simp <;> omega)), by go_simp, by go_simp, by go_simp, by go_simp⟩ ?_
          clear hb1 hc1 hf1 hl1 hz1 gl gX
          generalize w1.heap.size = G
          rintro wz ⟨htz, hKz, hG0, hG1, u0, u1, u2, u3⟩
          clear y0 y1 y2 y3 y4 n0 n4
          go_upto_region 13 with (go_at_call 65; refine (hT.out _ _ (hKz.keep hKz.low zw (Nat.le_refl _))).mono ?_; rintro e w1 ⟨rfl, hv1, ht1⟩)
          have hl := hlh.out
          by_cases htb : tgtB D P kw 4 kw lim = true
          rotate_left
          · rw [if_pos (by simpa using htb)] at hl
            subst hl
            rw [show tgtE D P kw 4 kw lim 0 = 211 by simp [tgtE, htb, tellE], show tgtA D P kw 4 kw lim 0 ar = P by simp [tgtA, htb, tellA]] at hv1
            have q4 := hv1.c4
            clear hT HA u0 u1 u2 u3
            go_wp2
            go_returns
            exact ⟨_, _, _, rfl, by decide, hv1, htwr.trans (htz.trans ht1)⟩
          · rw [if_neg (by simpa using htb)] at hl
            rw [show tgtE D P kw 4 kw lim 0 = 0 by simp [tgtE, htb], show tgtA D P kw 4 kw lim 0 ar = ar by simp [tgtA, htb]] at hv1
            have hX : tgtX D P kw 4 kw lim = P - loadV D P kw := by simp [tgtX, htb]
            have q4 := hv1.c4
            have hnG : G ∉ [lk] := by have := hKy.lkt; simp; omega
            have hlh := Lib.hid hl
            clear hT HA hl
            go_upto_region 15 with fail
            refine wp_named (fun wx => Touch [lk] wr wx ∧ DSt 76 wx lk b o n cap D dp fu ar 0 ∧ G < wx.heap.size ∧ wx.cell? ⟨G, 0, none⟩ = some (.int .i64 P) ∧ wx.cell? ⟨G, 1, none⟩ = some (.int .i64 kw) ∧ wx.cell? ⟨G, 2, none⟩ = some (.int .i64 4) ∧ wx.cell? ⟨G, 3, none⟩ = some (.int .i64 kw)) ⟨htz.trans ht1, hv1, Nat.lt_of_lt_of_le hG1 ht1.size, (touch_cell ht1 hG1 hnG 0).trans u0, (touch_cell ht1 hG1 hnG 1).trans u1, (touch_cell ht1 hG1 hnG 2).trans u2, (touch_cell ht1 hG1 hnG 3).trans u3⟩ ?_
            clear htz hKz hG1 u0 u1 u2 u3 hv1 ht1 q4
            rintro wx ⟨htx, hKx, hG1, u0, u1, u2, u3⟩
            have u4 := hKx.c0
            have hDx := hKx.doc
            have glx : lk < wx.heap.size := hKx.lkt
            have HKey := Lib.hid (fun W (hW : Doc W b o n cap D) => tkey_any b o n cap D P kw 4 kw W hW)
            rw [show ((4 : Int) == 4) = true from rfl] at HKey
            unfold strV at HKey
            go_region_held3 (fun w' => w'.cell? ⟨G, 0, none⟩ = some (.int .i64 P) ∧ w'.cell? ⟨G, 1, none⟩ = some (.int .i64 kw) ∧ w'.cell? ⟨G, 2, none⟩ = some (.int .i64 4) ∧ w'.cell? ⟨G, 3, none⟩ = some (.int .i64 kw) ∧ w'.cell? ⟨lk, 0, none⟩ = some (.slice (some ⟨b, o, none⟩) n cap)) (first | (with_reducible exact ⟨u0, u1, u2, u3, u4⟩) | (refine ⟨?_, ?_, ?_, ?_, ?_⟩ <;> go_keep)) (((go_at_call 111; refine (HKey.out _ (hDx.below zw)).mono ?_; rintro e w1 ⟨rfl, hb1⟩; obtain ⟨hc1, hf1, hl1⟩ := bcell hb1; (try simp only [zdz] at hc1 hf1 hl1); have hz1 := hb1.size; (try simp only [zsz] at hz1); (try have g0 : w.heap.size < w1.heap.size := by omega); (try have g1 : w.heap.size + 1 < w1.heap.size := by omega); (try have gl : lk < w1.heap.size := by omega)); (have gG : G < w1.heap.size := by omega)))
            go_upto_region 16 with fail
            have e0 : w1.cell? ⟨G, 0, none⟩ = some (.int .i64 P) := by go_simp
            refine wp_named (fun wv => Touch [lk] wr wv ∧ DSt 76 wv lk b o n cap D dp fu ar 0 ∧ G < wv.heap.size ∧ wv.cell? ⟨G, 0, none⟩ = some (.int .i64 P)) ⟨htx.trans (Touch.quiet zw), hKx.keep hKx.low zw (Nat.le_refl _), by (first | omega | (simp; omega)), by go_simp⟩ ?_
            clear hb1 hc1 hf1 hl1 hz1 gl gG e0 u0 u1 u2 u3 u4 htx hKx hG1 hDx glx HKey
            rintro wv ⟨htv, hKv, hGv, u0⟩
            have hl := hlh.out
            by_cases hfe : findE D P kw 4 kw true = 0
            rotate_left
            · rw [if_pos hfe] at hl
              subst hl
              have hE : tellE 0 (findE D P kw 4 kw true) = findE D P kw 4 kw true := rfl
              have hA : tellA 0 ar (P - loadV D P kw) = P - loadV D P kw := rfl
              have hE1 : (tellE 0 (findE D P kw 4 kw true) == 0) = false := by simpa [hE] using hfe
              have HFE := Lib.hid hfe
              clear hfe
              go_wp2_with (go_at_call 64; refine (dtell_no (hKv.keep hKv.low zw (Nat.le_refl _)) (P - loadV D P kw) (findE D P kw 4 kw true) HFE.out).mono ?_; rintro e w1 ⟨rfl, hv1, ht1⟩)
              go_returns
              exact ⟨_, _, _, rfl, HFE.out, hv1, htwr.trans (htv.trans (Tch.touch (by (repeat' first | (with_reducible first | exact Tch.refl _ _ _ | assumption | refine Tch.alloc ?_ ?_ _ | refine Tch.drew ?_ | refine Tch.drewN ?_ _ | refine Tch.setCell ?_ ?_ _ | refine Tch.setBlock ?_ (by simp) _ | refine tch_call (by assumption) ?_ ?_ | refine tch_below (by assumption) ?_ ?_ | exact zb6 _) | omega | (simp only [zsz, size_setBlock]; omega) | (simp; omega)))))⟩
            · rw [if_neg (by simpa using hfe)] at hl
              have ownv := own_touch hown htv (by have := hKy.lkt; omega)
              have hE1 : (tellE 0 0 == 0) = true := rfl
              (try rw [hfe])
              generalize hs : findS D P kw 4 kw true = s at *
              have hlh := Lib.hid hl
              have hlkB : lk < wy.heap.size := by have := hKy.lkt; omega
              have hbB : b < wy.heap.size := hKy.low.b
              obtain ⟨i0, hi, hz0, hz1, hz2⟩ := info_parts strinfo
              clear hl hfe
              by_cases hj0 : j = 0
              · subst hj0
                rw [hacc] at hown ownv
                have hHacc := Lib.hid hacc
                clear hacc
                obtain ⟨A8, c8, rfl⟩ := owns_ptr hown
                go_wp2_with fail
                refine (dtell_ok hKv (P - loadV D P kw)).mono ?_
                rintro e w1 ⟨rfl, hv1, ht1⟩
                have hlf := hlh.out
                rw [if_neg (by omega)] at hlf
                have hsz1 := ht1.size
                have ownw := Lib.hid (own_touch ownv ht1 hlkB)
                clear ownv hown
                have hmap : (acc ++ [s]).map strV = acc.map strV ++ [strV s] := by simp
                have HM := Lib.hid hmap
                clear hmap
                generalize acc.map strV = xs at *
                have hHlf := Lib.hid hlf
                clear hlf
                go_wp2_with (at_builtin; refine wpList_append_own _ rfl _ _ 41 rfl wy.heap.size 9 i0 (.string ⟨#[]⟩) 1 16 Try.underlying41 hi hz0 hz1 hz2 rfl (by decide) _ _ xs rfl (ownw.out.alloc _) ⟨_, 0, none⟩ 1 1 [strV s] rfl rfl ?c2 ?c3 ?c4 ?c5 ?c6 ?_)
                case c2 => exact one_at (heap_alloc_new _ _)
                case c3 => intro x hx; simp at hx; subst hx; rfl
                case c4 => unfold maxLen; omega
                case c5 => omega
                case c6 => have := htv.size; simp; omega
                intro v3 w3 ho hgr _
                have hslt := fun k hk => ownw.out.lt k hk
                have hb1 : Below w1.heap.size w1 (w1.alloc (.cells #[strV s] 9)) := (Below.refl _ _).alloc (Nat.le_refl _) _
                have ht3 : Touch [lk] wy w3 := touch_grown (((htr.trans htv).trans ht1).trans (Touch.quiet hb1)) hgr (fun k hk => (hslt k hk).1)
                have hv3 := (hv1.keep hv1.low hb1 (Nat.le_refl _)).grown hgr (fun e => by have := (hslt lk e).1; omega) (fun e => by have := (hslt b e).1; omega)
                have hlen2 : (acc ++ [s]).length = acc.length + 1 := by simp
                clear hgr hv1 ht1 htv hKv hsz1 ownw
                go_wp2_with fail
                go_roundw
                case rel => exact ⟨acc.length + 1, acc ++ [s], _, by rw [hHacc.out]; omega, by rw [hHacc.out]; go_num, hlen2, by rw [hlen2, hHacc.out, HM.out]; exact ho, hv3, ht3, by rw [hHacc.out, hr2]; exact hHlf.out⟩
                case measure => simp only [intOf]; omega
              · obtain ⟨jj, rfl⟩ : ∃ jj, j = jj + 1 := ⟨j - 1, by omega⟩
                obtain ⟨g, c8, rfl, hlast, hc8⟩ := row_last hown jj hacc
                rw [hacc] at hown ownv
                have hHacc := Lib.hid hacc
                clear hacc
                have hg := hown.lt g rfl
                have hng : g ∉ [lk] := by simp; omega
                have hlast' := (touch_cell htv hg.2 hng jj).trans hlast
                have hwj : IntKind.i64.wrap (((jj + 1 : Nat) : Int) - 1) = jj := by rw [IntWalk.i64_in _ (by omega)]; omega
                have hjp : (0 : Int) < ((jj + 1 : Nat) : Int) := by omega
                have hlf := hlh.out
                rw [show (((jj + 1 : Nat) : Int) - 1).toNat = jj by omega] at hlf
                generalize hlv : acc.getD jj [] = last at *
                have HLS := Lib.hid (fun W => less_any last s W)
                go_wp2_with fail
                refine (dtell_ok hKv (P - loadV D P kw)).mono ?_
                rintro e w1 ⟨rfl, hv1, ht1⟩
                have hl1 := (touch_cell ht1 (Nat.lt_of_lt_of_le hg.2 htv.size) hng jj).trans hlast'
                have u01 := (touch_cell ht1 hGv hnG 0).trans u0
                have j0 : (0 : Int) ≤ (jj : Int) := by omega
                have j1 : (jj : Int) < ((jj + 1 : Nat) : Int) := by omega
                clear hlast hlast'
                cases hles : lessB last s with
                | false =>
                  rw [if_pos ⟨hjp, hles⟩] at hlf
                  subst hlf
                  rw [hles] at HLS
                  go_wp2_with (go_at_call 126; refine (HLS.out _).mono ?_; rintro e w1 ⟨rfl, rfl⟩)
                  refine (dtell_no hv1 P 215 (by decide)).mono ?_
                  rintro e w2 ⟨rfl, hv2, ht2⟩
                  go_wp2_with fail
                  go_returns
                  exact ⟨_, _, _, rfl, by decide, hv2, htwr.trans (htv.trans (ht1.trans ht2))⟩
                | true =>
                  rw [if_neg (by rintro ⟨-, h⟩; rw [hles] at h; cases h)] at hlf
                  rw [hles] at HLS
                  go_upto_region 18 with (go_at_call 126; refine (HLS.out _).mono ?_; rintro e w1 ⟨rfl, rfl⟩)
                  have hsz1 := ht1.size
                  have ownw := Lib.hid (own_touch ownv ht1 hlkB)
                  clear ownv hown
                  have hmap : (acc ++ [s]).map strV = acc.map strV ++ [strV s] := by simp
                  have HM := Lib.hid hmap
                  clear hmap
                  generalize acc.map strV = xs at *
                  have hHlf := Lib.hid hlf
                  clear hlf
                  go_wp2_with (at_builtin; refine wpList_append_own _ rfl _ _ 41 rfl wy.heap.size 9 i0 (.string ⟨#[]⟩) 1 16 Try.underlying41 hi hz0 hz1 hz2 rfl (by decide) _ _ xs rfl (ownw.out.alloc _) ⟨_, 0, none⟩ 1 1 [strV s] rfl rfl ?c2 ?c3 ?c4 ?c5 ?c6 ?_)
                  case c2 => exact one_at (heap_alloc_new _ _)
                  case c3 => intro x hx; simp at hx; subst hx; rfl
                  case c4 => unfold maxLen; omega
                  case c5 => omega
                  case c6 => have := htv.size; simp; omega
                  intro v3 w3 ho hgr _
                  have hslt := fun k hk => ownw.out.lt k hk
                  have hb1 : Below w1.heap.size w1 (w1.alloc (.cells #[strV s] 9)) := (Below.refl _ _).alloc (Nat.le_refl _) _
                  have ht3 : Touch [lk] wy w3 := touch_grown (((htr.trans htv).trans ht1).trans (Touch.quiet hb1)) hgr (fun k hk => (hslt k hk).1)
                  have hv3 := (hv1.keep hv1.low hb1 (Nat.le_refl _)).grown hgr (fun e => by have := (hslt lk e).1; omega) (fun e => by have := (hslt b e).1; omega)
                  have hlen2 : (acc ++ [s]).length = acc.length + 1 := by simp
                  clear hgr hv1 ht1 htv hKv hsz1 ownw
                  go_wp2_with fail
                  go_roundw
                  case rel => exact ⟨acc.length + 1, acc ++ [s], _, by rw [hHacc.out]; omega, by rw [hHacc.out]; go_num, hlen2, by rw [hlen2, hHacc.out, HM.out]; exact ho, hv3, ht3, by rw [hHacc.out, hr2]; exact hHlf.out⟩
                  case measure => simp only [intOf]; omega
        · go_upto_region 12 with fail
          refine wp_named (fun wz => Touch [lk] wr wz ∧ DSt 76 wz lk b o n cap D dp fu ar 0 ∧ wy.heap.size ≤ wr.heap.size ∧ wr.heap.size < wz.heap.size ∧ wz.cell? ⟨wr.heap.size, 0, none⟩ = some (.int .i64 P) ∧ wz.cell? ⟨wr.heap.size, 1, none⟩ = some (.int .i64 kw) ∧ wz.cell? ⟨wr.heap.size, 2, none⟩ = some (.int .i64 4) ∧ wz.cell? ⟨wr.heap.size, 3, none⟩ = some (.int .i64 kw)) ⟨Touch.quiet zw, hKr.keep hKr.low zw (Nat.le_refl _), by omega, by (first | omega | (simp <;> omega)), by go_simp, by go_simp, by go_simp, by go_simp⟩ ?_
          clear hb1 hc1 hf1 hl1 hz1 gl gX
          generalize hGq : wr.heap.size = G
          clear hGq
          rintro wz ⟨htz, hKz, hG0, hG1, u0, u1, u2, u3⟩
          clear y0 y1 y2 y3 y4 n0 n4
          go_upto_region 13 with (go_at_call 65; refine (hT.out _ _ (hKz.keep hKz.low zw (Nat.le_refl _))).mono ?_; rintro e w1 ⟨rfl, hv1, ht1⟩)
          have hl := hlh.out
          by_cases htb : tgtB D P kw 4 kw lim = true
          rotate_left
          · rw [if_pos (by simpa using htb)] at hl
            subst hl
            rw [show tgtE D P kw 4 kw lim 0 = 211 by simp [tgtE, htb, tellE], show tgtA D P kw 4 kw lim 0 ar = P by simp [tgtA, htb, tellA]] at hv1
            have q4 := hv1.c4
            clear hT HA u0 u1 u2 u3
            go_wp2
            go_returns
            exact ⟨_, _, _, rfl, by decide, hv1, htwr.trans (htz.trans ht1)⟩
          · rw [if_neg (by simpa using htb)] at hl
            rw [show tgtE D P kw 4 kw lim 0 = 0 by simp [tgtE, htb], show tgtA D P kw 4 kw lim 0 ar = ar by simp [tgtA, htb]] at hv1
            have hX : tgtX D P kw 4 kw lim = P - loadV D P kw := by simp [tgtX, htb]
            have q4 := hv1.c4
            have hnG : G ∉ [lk] := by have := hKy.lkt; simp; omega
            have hlh := Lib.hid hl
            clear hT HA hl
            go_upto_region 15 with fail
            refine wp_named (fun wx => Touch [lk] wr wx ∧ DSt 76 wx lk b o n cap D dp fu ar 0 ∧ G < wx.heap.size ∧ wx.cell? ⟨G, 0, none⟩ = some (.int .i64 P) ∧ wx.cell? ⟨G, 1, none⟩ = some (.int .i64 kw) ∧ wx.cell? ⟨G, 2, none⟩ = some (.int .i64 4) ∧ wx.cell? ⟨G, 3, none⟩ = some (.int .i64 kw)) ⟨htz.trans ht1, hv1, Nat.lt_of_lt_of_le hG1 ht1.size, (touch_cell ht1 hG1 hnG 0).trans u0, (touch_cell ht1 hG1 hnG 1).trans u1, (touch_cell ht1 hG1 hnG 2).trans u2, (touch_cell ht1 hG1 hnG 3).trans u3⟩ ?_
            clear htz hKz hG1 u0 u1 u2 u3 hv1 ht1 q4
            rintro wx ⟨htx, hKx, hG1, u0, u1, u2, u3⟩
            have u4 := hKx.c0
            have hDx := hKx.doc
            have glx : lk < wx.heap.size := hKx.lkt
            have HKey := Lib.hid (fun W (hW : Doc W b o n cap D) => tkey_any b o n cap D P kw 4 kw W hW)
            rw [show ((4 : Int) == 4) = true from rfl] at HKey
            unfold strV at HKey
            go_region_held3 (fun w' => w'.cell? ⟨G, 0, none⟩ = some (.int .i64 P) ∧ w'.cell? ⟨G, 1, none⟩ = some (.int .i64 kw) ∧ w'.cell? ⟨G, 2, none⟩ = some (.int .i64 4) ∧ w'.cell? ⟨G, 3, none⟩ = some (.int .i64 kw) ∧ w'.cell? ⟨lk, 0, none⟩ = some (.slice (some ⟨b, o, none⟩) n cap)) (first | (with_reducible exact ⟨u0, u1, u2, u3, u4⟩) | (refine ⟨?_, ?_, ?_, ?_, ?_⟩ <;> go_keep)) (((go_at_call 111; refine (HKey.out _ (hDx.below zw)).mono ?_; rintro e w1 ⟨rfl, hb1⟩; obtain ⟨hc1, hf1, hl1⟩ := bcell hb1; (try simp only [zdz] at hc1 hf1 hl1); have hz1 := hb1.size; (try simp only [zsz] at hz1); (try have g0 : w.heap.size < w1.heap.size := by omega); (try have g1 : w.heap.size + 1 < w1.heap.size := by omega); (try have gl : lk < w1.heap.size := by omega)); (have gG : G < w1.heap.size := by omega)))
            go_upto_region 16 with fail
            have e0 : w1.cell? ⟨G, 0, none⟩ = some (.int .i64 P) := by go_simp
            refine wp_named (fun wv => Touch [lk] wr wv ∧ DSt 76 wv lk b o n cap D dp fu ar 0 ∧ G < wv.heap.size ∧ wv.cell? ⟨G, 0, none⟩ = some (.int .i64 P)) ⟨htx.trans (Touch.quiet zw), hKx.keep hKx.low zw (Nat.le_refl _), by (first | omega | (simp; omega)), by go_simp⟩ ?_
            clear hb1 hc1 hf1 hl1 hz1 gl gG e0 u0 u1 u2 u3 u4 htx hKx hG1 hDx glx HKey
            rintro wv ⟨htv, hKv, hGv, u0⟩
            have hl := hlh.out
            by_cases hfe : findE D P kw 4 kw true = 0
            rotate_left
            · rw [if_pos hfe] at hl
              subst hl
              have hE : tellE 0 (findE D P kw 4 kw true) = findE D P kw 4 kw true := rfl
              have hA : tellA 0 ar (P - loadV D P kw) = P - loadV D P kw := rfl
              have hE1 : (tellE 0 (findE D P kw 4 kw true) == 0) = false := by simpa [hE] using hfe
              have HFE := Lib.hid hfe
              clear hfe
              go_wp2_with (go_at_call 64; refine (dtell_no (hKv.keep hKv.low zw (Nat.le_refl _)) (P - loadV D P kw) (findE D P kw 4 kw true) HFE.out).mono ?_; rintro e w1 ⟨rfl, hv1, ht1⟩)
              go_returns
              exact ⟨_, _, _, rfl, HFE.out, hv1, htwr.trans (htv.trans (Tch.touch (by (repeat' first | (with_reducible first | exact Tch.refl _ _ _ | assumption | refine Tch.alloc ?_ ?_ _ | refine Tch.drew ?_ | refine Tch.drewN ?_ _ | refine Tch.setCell ?_ ?_ _ | refine Tch.setBlock ?_ (by simp) _ | refine tch_call (by assumption) ?_ ?_ | refine tch_below (by assumption) ?_ ?_ | exact zb6 _) | omega | (simp only [zsz, size_setBlock]; omega) | (simp; omega)))))⟩
            · rw [if_neg (by simpa using hfe)] at hl
              have ownv := own_touch hown htv (by have := hKy.lkt; omega)
              have hE1 : (tellE 0 0 == 0) = true := rfl
              (try rw [hfe])
              generalize hs : findS D P kw 4 kw true = s at *
              have hlh := Lib.hid hl
              have hlkB : lk < wy.heap.size := by have := hKy.lkt; omega
              have hbB : b < wy.heap.size := hKy.low.b
              obtain ⟨i0, hi, hz0, hz1, hz2⟩ := info_parts strinfo
              clear hl hfe
              by_cases hj0 : j = 0
              · subst hj0
                rw [hacc] at hown ownv
                have hHacc := Lib.hid hacc
                clear hacc
                obtain ⟨A8, c8, rfl⟩ := owns_ptr hown
                go_wp2_with fail
                refine (dtell_ok hKv (P - loadV D P kw)).mono ?_
                rintro e w1 ⟨rfl, hv1, ht1⟩
                have hlf := hlh.out
                rw [if_neg (by omega)] at hlf
                have hsz1 := ht1.size
                have ownw := Lib.hid (own_touch ownv ht1 hlkB)
                clear ownv hown
                have hmap : (acc ++ [s]).map strV = acc.map strV ++ [strV s] := by simp
                have HM := Lib.hid hmap
                clear hmap
                generalize acc.map strV = xs at *
                have hHlf := Lib.hid hlf
                clear hlf
                go_wp2_with (at_builtin; refine wpList_append_own _ rfl _ _ 41 rfl wy.heap.size 9 i0 (.string ⟨#[]⟩) 1 16 Try.underlying41 hi hz0 hz1 hz2 rfl (by decide) _ _ xs rfl (ownw.out.alloc _) ⟨_, 0, none⟩ 1 1 [strV s] rfl rfl ?c2 ?c3 ?c4 ?c5 ?c6 ?_)
                case c2 => exact one_at (heap_alloc_new _ _)
                case c3 => intro x hx; simp at hx; subst hx; rfl
                case c4 => unfold maxLen; omega
                case c5 => omega
                case c6 => have := htv.size; simp; omega
                intro v3 w3 ho hgr _
                have hslt := fun k hk => ownw.out.lt k hk
                have hb1 : Below w1.heap.size w1 (w1.alloc (.cells #[strV s] 9)) := (Below.refl _ _).alloc (Nat.le_refl _) _
                have ht3 : Touch [lk] wy w3 := touch_grown (((htr.trans htv).trans ht1).trans (Touch.quiet hb1)) hgr (fun k hk => (hslt k hk).1)
                have hv3 := (hv1.keep hv1.low hb1 (Nat.le_refl _)).grown hgr (fun e => by have := (hslt lk e).1; omega) (fun e => by have := (hslt b e).1; omega)
                have hlen2 : (acc ++ [s]).length = acc.length + 1 := by simp
                clear hgr hv1 ht1 htv hKv hsz1 ownw
                go_wp2_with fail
                go_roundw
                case rel => exact ⟨acc.length + 1, acc ++ [s], _, by rw [hHacc.out]; omega, by rw [hHacc.out]; go_num, hlen2, by rw [hlen2, hHacc.out, HM.out]; exact ho, hv3, ht3, by rw [hHacc.out, hr2]; exact hHlf.out⟩
                case measure => simp only [intOf]; omega
              · obtain ⟨jj, rfl⟩ : ∃ jj, j = jj + 1 := ⟨j - 1, by omega⟩
                obtain ⟨g, c8, rfl, hlast, hc8⟩ := row_last hown jj hacc
                rw [hacc] at hown ownv
                have hHacc := Lib.hid hacc
                clear hacc
                have hg := hown.lt g rfl
                have hng : g ∉ [lk] := by simp; omega
                have hlast' := (touch_cell htv hg.2 hng jj).trans hlast
                have hwj : IntKind.i64.wrap (((jj + 1 : Nat) : Int) - 1) = jj := by rw [IntWalk.i64_in _ (by omega)]; omega
                have hjp : (0 : Int) < ((jj + 1 : Nat) : Int) := by omega
                have hlf := hlh.out
                rw [show (((jj + 1 : Nat) : Int) - 1).toNat = jj by omega] at hlf
                generalize hlv : acc.getD jj [] = last at *
                have HLS := Lib.hid (fun W => less_any last s W)
                go_wp2_with fail
                refine (dtell_ok hKv (P - loadV D P kw)).mono ?_
                rintro e w1 ⟨rfl, hv1, ht1⟩
                have hl1 := (touch_cell ht1 (Nat.lt_of_lt_of_le hg.2 htv.size) hng jj).trans hlast'
                have u01 := (touch_cell ht1 hGv hnG 0).trans u0
                have j0 : (0 : Int) ≤ (jj : Int) := by omega
                have j1 : (jj : Int) < ((jj + 1 : Nat) : Int) := by omega
                clear hlast hlast'
                cases hles : lessB last s with
                | false =>
                  rw [if_pos ⟨hjp, hles⟩] at hlf
                  subst hlf
                  rw [hles] at HLS
                  go_wp2_with (go_at_call 126; refine (HLS.out _).mono ?_; rintro e w1 ⟨rfl, rfl⟩)
                  refine (dtell_no hv1 P 215 (by decide)).mono ?_
                  rintro e w2 ⟨rfl, hv2, ht2⟩
                  go_wp2_with fail
                  go_returns
                  exact ⟨_, _, _, rfl, by decide, hv2, htwr.trans (htv.trans (ht1.trans ht2))⟩
                | true =>
                  rw [if_neg (by rintro ⟨-, h⟩; rw [hles] at h; cases h)] at hlf
                  rw [hles] at HLS
                  go_upto_region 18 with (go_at_call 126; refine (HLS.out _).mono ?_; rintro e w1 ⟨rfl, rfl⟩)
                  have hsz1 := ht1.size
                  have ownw := Lib.hid (own_touch ownv ht1 hlkB)
                  clear ownv hown
                  have hmap : (acc ++ [s]).map strV = acc.map strV ++ [strV s] := by simp
                  have HM := Lib.hid hmap
                  clear hmap
                  generalize acc.map strV = xs at *
                  have hHlf := Lib.hid hlf
                  clear hlf
                  go_wp2_with (at_builtin; refine wpList_append_own _ rfl _ _ 41 rfl wy.heap.size 9 i0 (.string ⟨#[]⟩) 1 16 Try.underlying41 hi hz0 hz1 hz2 rfl (by decide) _ _ xs rfl (ownw.out.alloc _) ⟨_, 0, none⟩ 1 1 [strV s] rfl rfl ?c2 ?c3 ?c4 ?c5 ?c6 ?_)
                  case c2 => exact one_at (heap_alloc_new _ _)
                  case c3 => intro x hx; simp at hx; subst hx; rfl
                  case c4 => unfold maxLen; omega
                  case c5 => omega
                  case c6 => have := htv.size; simp; omega
                  intro v3 w3 ho hgr _
                  have hslt := fun k hk => ownw.out.lt k hk
                  have hb1 : Below w1.heap.size w1 (w1.alloc (.cells #[strV s] 9)) := (Below.refl _ _).alloc (Nat.le_refl _) _
                  have ht3 : Touch [lk] wy w3 := touch_grown (((htr.trans htv).trans ht1).trans (Touch.quiet hb1)) hgr (fun k hk => (hslt k hk).1)
                  have hv3 := (hv1.keep hv1.low hb1 (Nat.le_refl _)).grown hgr (fun e => by have := (hslt lk e).1; omega) (fun e => by have := (hslt b e).1; omega)
                  have hlen2 : (acc ++ [s]).length = acc.length + 1 := by simp
                  clear hgr hv1 ht1 htv hKv hsz1 ownw
                  go_wp2_with fail
                  go_roundw
                  case rel => exact ⟨acc.length + 1, acc ++ [s], _, by rw [hHacc.out]; omega, by rw [hHacc.out]; go_num, hlen2, by rw [hlen2, hHacc.out, HM.out]; exact ho, hv3, ht3, by rw [hHacc.out, hr2]; exact hHlf.out⟩
                  case measure => simp only [intOf]; omega
      · have hjc : m.toNat - j = 0 := by omega
        rw [hjc, kloopD] at hl
        subst hl
        go_wp2
        go_returns
        have hx := hown
        exact ⟨_, _, rfl, owns_base hx hSw, hKr, htwr⟩
end
end Go.Proofs.Ytmpflnlajakibaa
