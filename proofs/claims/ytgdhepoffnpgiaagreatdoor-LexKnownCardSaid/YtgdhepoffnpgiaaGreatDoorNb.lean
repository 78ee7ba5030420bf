/- The walk of accordionref10.number: written by wip/gen/nb.py. -/
import Derived.Test.YtgdhepoffnpgiaaGreatDoorNa
namespace Go.Proofs.YtgdhepoffnpgiaaGreatDoor
set_option linter.unusedVariables false
set_option linter.unusedSimpArgs false
open Go.RowKit Go.Shelf
theorem wp_namedR {P : Program} {c : Code} {Q : Exit → Act → World → Prop} {a : Act} {W : World} (R : World → Prop) (hR : R W) (h : ∀ wn, R wn → c.wp P Q a wn) : c.wp P Q a W := h W hR
/-- The zero cells of a token of the reference. -/
def ZeroR (w : World) (g : Nat) : Prop := w.heap[g]? = some (.cells #[.int .i64 0, .int .i64 0, .int .i64 0, .int .i64 0, .int .u64 0, .string .empty] 39 (0, 0))
theorem ZeroR.cells {w : World} {g : Nat} (h : ZeroR w g) : w.cell? ⟨g, 0, none⟩ = some (.int .i64 0) ∧ w.cell? ⟨g, 1, none⟩ = some (.int .i64 0) ∧ w.cell? ⟨g, 2, none⟩ = some (.int .i64 0) ∧ w.cell? ⟨g, 3, none⟩ = some (.int .i64 0) ∧ w.cell? ⟨g, 4, none⟩ = some (.int .u64 0) ∧ w.cell? ⟨g, 5, none⟩ = some (.string .empty) ∧ ∀ i, w.frozen? ⟨g, i, none⟩ = false := by
  refine ⟨?_, ?_, ?_, ?_, ?_, ?_, fun i => ?_⟩
  all_goals first | (rw [Lib.cell_of_heap h]; rfl) | exact Lib.frozen_of_heap h i
theorem setR {B : Nat} {a w : World} (h : Below B a w) {g : Nat} (hg : B ≤ g) (v0 v1 v2 v3 v4 v5 : Value) :
    Below B a ((((((w.setCell ⟨g, 0, none⟩ v0).setCell ⟨g, 1, none⟩ v1).setCell ⟨g, 2, none⟩ v2).setCell ⟨g, 3, none⟩ v3).setCell ⟨g, 4, none⟩ v4).setCell ⟨g, 5, none⟩ v5) :=
  (((((h.setCell hg v0).setCell hg v1).setCell hg v2).setCell hg v3).setCell hg v4).setCell hg v5
/-- Where a function of the reference stands: its result in the block at the size of w. -/
structure NR (w wn : World) : Prop where
  b : Below w.heap.size w wn
  z : w.heap.size < wn.heap.size
  o : ZeroR wn w.heap.size
theorem NR.quiet {w wn w1 : World} (h : NR w wn) (hb : Below wn.heap.size wn w1) : NR w w1 :=
  ⟨h.b.trans (hb.mono (Nat.le_of_lt h.z)), Nat.lt_of_lt_of_le h.z hb.size, (hb.block _ h.z).trans h.o⟩
theorem NR.is {w wn : World} (h : NR w wn) (l cs : List UInt8) (a : Nat) (hl : l.length ≤ 1073741824) (hc : cs.length ≤ 100) (ha : a ≤ 2147483648) :
    Calls Tryz.prog 31 #[strV l, .int .i64 a, strV cs] wn fun e w1 => e = .returned (.bool (oneB l cs a)) ∧ NR w w1 :=
  (ris_any l cs a hl hc ha wn).mono fun _ _ ⟨he, n, hw⟩ => ⟨he, by rw [hw]; exact h.quiet (below_drewN (Below.refl _ _) n)⟩
theorem NR.yes {w wn : World} (h : NR w wn) {l cs : List UInt8} {a : Nat} (hb : oneB l cs a = true) (hl : l.length ≤ 1073741824) (hc : cs.length ≤ 100) (ha : a ≤ 2147483648) :
    Calls Tryz.prog 31 #[strV l, .int .i64 a, strV cs] wn fun e w1 => e = .returned (.bool true) ∧ NR w w1 := by
  have := h.is l cs a hl hc ha
  rwa [hb] at this
theorem NR.no {w wn : World} (h : NR w wn) {l cs : List UInt8} {a : Nat} (hb : oneB l cs a = false) (hl : l.length ≤ 1073741824) (hc : cs.length ≤ 100) (ha : a ≤ 2147483648) :
    Calls Tryz.prog 31 #[strV l, .int .i64 a, strV cs] wn fun e w1 => e = .returned (.bool false) ∧ NR w w1 := by
  have := h.is l cs a hl hc ha
  rwa [hb] at this
theorem NR.wrong {w wn : World} (h : NR w wn) (x e : Int) :
    Calls Tryz.prog 30 #[.int .i64 x, .int .i64 e] wn fun o w1 => o = .returned (.tuple #[.agg #[.int .i64 0, .int .i64 x, .int .i64 x, .int .i64 0, .int .u64 0, .string ⟨#[]⟩], .int .i64 e]) ∧ NR w w1 :=
  (rwrong_any x e wn).mono fun _ _ ⟨he, hb⟩ => ⟨he, h.quiet hb⟩
theorem rdig (l : List UInt8) (k k' : Nat) (h : k' = k + overN l DD k) (hk : k ≤ l.length) (hl : l.length ≤ 1073741824) (w : World) : Calls Tryz.prog 44 #[strV l, .int .i64 k] w fun o w' => o = .returned (.int .i64 (k' : Int)) ∧ w = w' :=
  (rdigits_any l k hk hl w).mono fun _ _ ⟨he, hw⟩ => ⟨by rw [he, h, over_digs], hw.symm⟩
theorem neg_u64r {u : Nat} (h : u ≤ 9223372036854775808) : IntKind.i64.wrap (IntKind.u64.wrap (-(u : Int))) = -(u : Int) := by
  rcases Nat.eq_zero_or_pos u with rfl | hp
  · rfl
  · have e : IntKind.u64.wrap (-(u : Int)) = 18446744073709551616 - u := by
      simp [IntKind.wrap, IntKind.signed, IntKind.bits]
      omega
    rw [e]
    simp [IntKind.wrap, IntKind.signed, IntKind.bits]
    (repeat' split) <;> omega
theorem whole_casesR (l : List UInt8) (k1 : Nat) (hk : k1 ≤ l.length) : (oneB l [48] k1 = false ∧ overN l DD k1 = 0) ∨ ∃ k2, k1 < k2 ∧ k2 ≤ l.length ∧ (∀ c ∈ (l.drop k1).take (k2 - k1), digB c = true) ∧ (∀ nb a, numS0 nb l a k1 = numS1 nb l a k1 k2) ∧
    ((oneB l [48] k1 = true ∧ k2 = k1 + 1) ∨ (oneB l [48] k1 = false ∧ k2 = k1 + overN l DD k1)) := by
  cases hz : oneB l [48] k1 with
  | true =>
    have hlt := one_lt hz
    refine .inr ⟨k1 + 1, by omega, by omega, ?_, fun nb a => by unfold numS0; rw [if_pos hz], .inl ⟨rfl, rfl⟩⟩
    rw [Nat.add_sub_cancel_left]
    rw [one_eq, List.drop_eq_getElem_cons hlt] at hz
    rw [List.drop_eq_getElem_cons hlt, List.take_succ_cons, List.take_zero]
    intro c hc
    rw [List.mem_singleton] at hc
    have hz' : l[k1] = 48 := by unfold headB at hz; rw [List.head?_cons, Option.any_some] at hz; simpa using hz
    rw [hc, hz']
    decide
  | false =>
    by_cases hd : overN l DD k1 = 0
    · exact .inl ⟨rfl, hd⟩
    · have hle := overN_le l DD k1
      refine .inr ⟨k1 + overN l DD k1, by omega, by omega, ?_, fun nb a => by unfold numS0; rw [hz, if_neg Bool.false_ne_true, if_neg hd], .inr ⟨rfl, rfl⟩⟩
      rw [Nat.add_sub_cancel_left, over_digs]
      exact (digs_all _).1
theorem subr_run (l : List UInt8) (i j : Nat) (hij : i ≤ j) (hj : j ≤ l.length) (W : World) : (Instr.slice 9 (.string ⟨l.toArray⟩) (some (.int .i64 i)) (some (.int .i64 j)) none).run Tryz.prog W = .ok (.string ⟨((l.drop i).take (j - i)).toArray⟩) W := sub_run l i j hij hj W
set_option maxHeartbeats 16000000 in
set_option maxRecDepth 100000 in
theorem rnumber_any (l : List UInt8) (a : Nat) (w : World) (hl : l.length ≤ 1073741824) (ha : a ≤ l.length) :
    Calls Tryz.prog 32 #[strV l, .int .i64 a] w fun o w' => o = .returned (trV (numS l a)) ∧ Below w.heap.size w w' := by
  have hs : (⟨l.toArray⟩ : ByteArray).size = l.length := by simp [ByteArray.size]
  unfold numS
  have hk1 := oneN_le l [45] a ha
  generalize hres : numS0 (oneB l [45] a) l a (a + oneN l [45] a) = res
  unfold strV
  go_enter Tryz.func32, Tryz.ntmps32
  go_upto_region 1 with fail
  refine wp_namedR (NR w) ⟨(Below.refl _ w).alloc (Nat.le_refl _) _, by simp, heap_alloc_new _ _⟩ ?_
  rintro wn hN0
  have HR0 := Lib.hid hres
  have HI := Lib.hid (hN0.is l [45] a hl (by decide) (by omega))
  unfold strV at HI
  clear hres hN0
  go_wp2_with fail
  refine HI.out.mono ?_
  rintro e w1 ⟨rfl, hN1⟩
  have HN1 := Lib.hid hN1
  clear hN1 HI
  have hres := HR0.out
  clear HR0
  obtain ⟨k1, hk1e⟩ : ∃ x, x = a + oneN l [45] a := ⟨_, rfl⟩
  rw [← hk1e] at hres hk1
  have hcut1 : (oneB l [45] a = true ∧ k1 = a + 1) ∨ (oneB l [45] a = false ∧ k1 = a) := by
    rw [hk1e]; unfold oneN
    cases oneB l [45] a <;> simp
  clear hk1e
  generalize oneB l [45] a = nb at *
  have HC1 := Lib.hid hcut1
  clear hcut1
  go_upto_if 19 with fail
  go_cut [6] (fun s6 wx => s6 = .int .i64 k1 ∧ w1 = wx)
  case first =>
    rcases HC1.out with ⟨rfl, hk⟩ | ⟨rfl, hk⟩
    · have q1 : IntKind.i64.wrap ((a : Int) + 1) = k1 := by rw [IntWalk.i64_in _ (by omega)]; omega
      clear hk
      go_wp2_with fail
      go_meet
      exact ⟨rfl, rfl⟩
    · subst hk
      go_wp2_with fail
      go_meet
      exact ⟨rfl, rfl⟩
  case rest =>
  obtain ⟨rfl, rfl⟩ := hcut
  clear HC1
  rcases whole_casesR l k1 hk1 with ⟨hz, hd⟩ | ⟨k2, hlt2, hle2, hdg, hS, hcase⟩
  · have HR := Lib.hid (show res = wrongT (k1 : Int) 100 by rw [← hres]; unfold numS0; rw [hz, if_neg Bool.false_ne_true, if_pos hd])
    have HI := Lib.hid (HN1.out.no hz hl (by decide) (by omega))
    have HD := Lib.hid (fun W => rdig l k1 k1 (by omega) hk1 hl W)
    unfold strV at HI HD
    clear hres hz hd
    go_wp2_with fail
    refine HI.out.mono ?_
    rintro e w2 ⟨rfl, hN⟩
    clear HI HN1
    go_wp2_with fail
    refine (HD.out _).mono ?_
    rintro e w3 ⟨rfl, rfl⟩
    have HN := Lib.hid hN
    clear hN
    go_wp2_with fail
    refine (HN.out.wrong _ _).mono ?_
    rintro o w9 ⟨rfl, hN9⟩
    clear HN
    obtain ⟨n0, n1, n2, n3, n4, n5, hfz⟩ := hN9.o.cells
    have f0 := hfz 0
    have f1 := hfz 1
    have f2 := hfz 2
    have f3 := hfz 3
    have f4 := hfz 4
    have f5 := hfz 5
    have H9 := Lib.hid hN9
    clear hN9 hfz
    go_wp2_with fail
    refine bodyPost_ret (v := trV (wrongT (k1 : Int) 100)) (by simp [results, Tryz.results32, go_sem, trV, tokV, strV, wrongT, *]) rfl ?_
    exact ⟨by rw [HR.out], setR H9.out.b (Nat.le_refl _) _ _ _ _ _ _⟩
  rw [hS] at hres
  have HRS := Lib.hid hres
  have HP := Lib.hid hdg
  have HI := Lib.hid (HN1.out.is l [48] k1 hl (by decide) (by omega))
  unfold strV at HI
  clear hS hres hdg
  go_wp2_with fail
  refine HI.out.mono ?_
  rintro e w2 ⟨rfl, hN2⟩
  have HN2 := Lib.hid hN2
  clear hN2 HI HN1
  generalize oneB l [48] k1 = z at *
  have HC2 := Lib.hid hcase
  clear hcase
  go_upto_if 25 with fail
  go_cut [6] (fun s6 wx => s6 = .int .i64 k2 ∧ w2 = wx)
  case first =>
    rcases HC2.out with ⟨rfl, hk⟩ | ⟨rfl, hk⟩
    · have q1 : IntKind.i64.wrap ((k1 : Int) + 1) = k2 := by rw [IntWalk.i64_in _ (by omega)]; omega
      clear hk
      go_wp2_with fail
      go_meet
      exact ⟨rfl, rfl⟩
    · have HD := Lib.hid (fun W => rdig l k1 k2 hk hk1 hl W)
      unfold strV at HD
      clear hk
      go_wp2_with fail
      refine (HD.out _).mono ?_
      rintro e w3 ⟨rfl, rfl⟩
      go_wp2_with fail
      go_meet
      exact ⟨rfl, rfl⟩
  case rest =>
  obtain ⟨rfl, rfl⟩ := hcut
  clear HC2
  have hne : ((k2 : Int) == (k1 : Int)) = false := by simp; omega
  have hsl := fun W => subr_run l k1 k2 (by omega) hle2 W
  cases hp : oneB l [46] k2
  · have HQ := Lib.hid (show numS2 nb l a k1 k2 false k2 = res by rw [← HRS.out]; unfold numS1; rw [hp, if_neg Bool.false_ne_true])
    have HI := Lib.hid (HN2.out.no hp hl (by decide) (by omega))
    unfold strV at HI
    clear hp HRS HN2
    go_wp2_with fail
    refine HI.out.mono ?_
    rintro e w5 ⟨rfl, hN⟩
    clear HI
    cases hq : oneB l [101, 69] k2
    · have HQ2 := Lib.hid (show numS3 nb l a k1 k2 false k2 = res by rw [← HQ.out]; unfold numS2; rw [hq, if_neg Bool.false_ne_true])
      have HI := Lib.hid (hN.no hq hl (by decide) (by omega))
      unfold strV at HI
      clear HQ hN hq
      go_wp2_with fail
      refine HI.out.mono ?_
      rintro e w7 ⟨rfl, hN⟩
      clear HI
      have hiq := HQ2.out
      unfold numS3 at hiq
      rw [if_neg Bool.false_ne_true] at hiq
      unfold intT at hiq
      have HIQ := Lib.hid hiq
      have hgt : ¬ (k2 : Int) < (k2 : Int) := by omega
      have HX := Lib.hid (rvalue_any _ HP.out (by simp only [List.length_take, List.length_drop]; omega))
      clear hiq HQ2
      by_cases h64 : 2 ^ 64 ≤ valU ((l.drop k1).take (k2 - k1))
      · have HR := Lib.hid (show res = wrongT (a : Int) 101 by rw [← HIQ.out, if_pos (.inl h64)])
        rw [if_pos h64] at HX
        unfold strV at HX
        clear h64 HIQ
        go_wp2_with fail
        refine (HX.out _).mono ?_
        rintro e w8 ⟨rfl, rfl⟩
        clear HX
        have HN := Lib.hid hN
        clear hN
        go_wp2_with fail
        refine (HN.out.wrong _ _).mono ?_
        rintro o w9 ⟨rfl, hN9⟩
        clear HN
        obtain ⟨n0, n1, n2, n3, n4, n5, hfz⟩ := hN9.o.cells
        have f0 := hfz 0
        have f1 := hfz 1
        have f2 := hfz 2
        have f3 := hfz 3
        have f4 := hfz 4
        have f5 := hfz 5
        have H9 := Lib.hid hN9
        clear hN9 hfz
        go_wp2_with fail
        refine bodyPost_ret (v := trV (wrongT (a : Int) 101)) (by simp [results, Tryz.results32, go_sem, trV, tokV, strV, wrongT, *]) rfl ?_
        exact ⟨by rw [HR.out], setR H9.out.b (Nat.le_refl _) _ _ _ _ _ _⟩
      rw [if_neg h64] at HX
      unfold strV at HX
      generalize valU ((l.drop k1).take (k2 - k1)) = u at *
      cases nb
      · by_cases h63 : 9223372036854775808 ≤ u
        · have HR := Lib.hid (show res = (⟨11, (a : Int), (k2 : Int), 0, (u : Int), []⟩, 0) by rw [← HIQ.out, if_neg (by rintro (h | ⟨h, -⟩); omega; cases h), if_neg Bool.false_ne_true, if_pos (by omega)])
          have hz63 : (9223372036854775808 : Int) ≤ (u : Int) := by omega
          clear h64 h63 HIQ
          generalize hzu : (u : Int) = z at HX hz63
          have HZ := Lib.hid hzu
          clear hzu
          go_wp2_with fail
          refine (HX.out _).mono ?_
          rintro e w8 ⟨rfl, rfl⟩
          clear HX
          have HN := Lib.hid hN
          clear hN
          go_upto_region 35 with fail
          refine wp_namedR (fun wx => NR w wx ∧ wx.heap[w8.heap.size]? = some (.cells #[.int .i64 11, .int .i64 a, .int .i64 k2, .int .i64 0, .int .u64 z, .string ⟨#[]⟩] 39 (0, 0))) ⟨HN.out.quiet ((Below.refl _ _).alloc (Nat.le_refl _) _), heap_alloc_new _ _⟩ ?_
          clear HN
          generalize w8.heap.size = G8 at *
          rintro wx ⟨hN, hg⟩
          have g0 := Lib.cell_of_heap hg 0
          have g1 := Lib.cell_of_heap hg 1
          have g2 := Lib.cell_of_heap hg 2
          have g3 := Lib.cell_of_heap hg 3
          have g4 := Lib.cell_of_heap hg 4
          have g5 := Lib.cell_of_heap hg 5
          simp only [List.getElem?_toArray, List.getElem?_cons_succ, List.getElem?_cons_zero] at g0 g1 g2 g3 g4 g5
          obtain ⟨n0, n1, n2, n3, n4, n5, hfz⟩ := hN.o.cells
          have f0 := hfz 0
          have f1 := hfz 1
          have f2 := hfz 2
          have f3 := hfz 3
          have f4 := hfz 4
          have f5 := hfz 5
          have H9 := Lib.hid hN
          clear hN hfz hg
          go_wp2_with fail
          refine bodyPost_ret (v := trV (⟨11, (a : Int), (k2 : Int), 0, u, []⟩, 0)) (by simp [results, Tryz.results32, go_sem, trV, tokV, strV, HZ.out, *]) rfl ?_
          exact ⟨by rw [HR.out], setR H9.out.b (Nat.le_refl _) _ _ _ _ _ _⟩
        · have HR := Lib.hid (show res = (⟨10, (a : Int), (k2 : Int), (u : Int), 0, []⟩, 0) by rw [← HIQ.out, if_neg (by rintro (h | ⟨h, -⟩); omega; cases h), if_neg Bool.false_ne_true, if_neg (by omega)])
          have hz63 : ¬ (9223372036854775808 : Int) ≤ (u : Int) := by omega
          have qw : IntKind.i64.wrap (u : Int) = u := IntWalk.i64_in _ (by omega)
          have hz0 : (0 : Int) ≤ (u : Int) := by omega
          clear h64 h63 HIQ
          generalize (u : Int) = z at *
          go_wp2_with fail
          refine (HX.out _).mono ?_
          rintro e w8 ⟨rfl, rfl⟩
          clear HX
          have HN := Lib.hid hN
          clear hN
          go_upto_region 35 with fail
          refine wp_namedR (fun wx => NR w wx ∧ wx.heap[w8.heap.size]? = some (.cells #[.int .i64 10, .int .i64 a, .int .i64 k2, .int .i64 z, .int .u64 0, .string ⟨#[]⟩] 39 (0, 0))) ⟨HN.out.quiet ((Below.refl _ _).alloc (Nat.le_refl _) _), heap_alloc_new _ _⟩ ?_
          clear HN
          generalize w8.heap.size = G8 at *
          rintro wx ⟨hN, hg⟩
          have g0 := Lib.cell_of_heap hg 0
          have g1 := Lib.cell_of_heap hg 1
          have g2 := Lib.cell_of_heap hg 2
          have g3 := Lib.cell_of_heap hg 3
          have g4 := Lib.cell_of_heap hg 4
          have g5 := Lib.cell_of_heap hg 5
          simp only [List.getElem?_toArray, List.getElem?_cons_succ, List.getElem?_cons_zero] at g0 g1 g2 g3 g4 g5
          obtain ⟨n0, n1, n2, n3, n4, n5, hfz⟩ := hN.o.cells
          have f0 := hfz 0
          have f1 := hfz 1
          have f2 := hfz 2
          have f3 := hfz 3
          have f4 := hfz 4
          have f5 := hfz 5
          have H9 := Lib.hid hN
          clear hN hfz hg
          go_wp2_with fail
          refine bodyPost_ret (v := trV (⟨10, (a : Int), (k2 : Int), z, 0, []⟩, 0)) (by simp [results, Tryz.results32, go_sem, trV, tokV, strV, *]) rfl ?_
          exact ⟨by rw [HR.out], setR H9.out.b (Nat.le_refl _) _ _ _ _ _ _⟩
      · by_cases h63 : 9223372036854775808 < u
        · have HR := Lib.hid (show res = wrongT (a : Int) 101 by rw [← HIQ.out, if_pos (.inr ⟨rfl, by omega⟩)])
          have hz63 : (9223372036854775808 : Int) < (u : Int) := by omega
          clear h64 h63 HIQ
          generalize (u : Int) = z at *
          go_wp2_with fail
          refine (HX.out _).mono ?_
          rintro e w8 ⟨rfl, rfl⟩
          clear HX
          have HN := Lib.hid hN
          clear hN
          go_wp2_with fail
          refine (HN.out.wrong _ _).mono ?_
          rintro o w9 ⟨rfl, hN9⟩
          clear HN
          obtain ⟨n0, n1, n2, n3, n4, n5, hfz⟩ := hN9.o.cells
          have f0 := hfz 0
          have f1 := hfz 1
          have f2 := hfz 2
          have f3 := hfz 3
          have f4 := hfz 4
          have f5 := hfz 5
          have H9 := Lib.hid hN9
          clear hN9 hfz
          go_wp2_with fail
          refine bodyPost_ret (v := trV (wrongT (a : Int) 101)) (by simp [results, Tryz.results32, go_sem, trV, tokV, strV, wrongT, *]) rfl ?_
          exact ⟨by rw [HR.out], setR H9.out.b (Nat.le_refl _) _ _ _ _ _ _⟩
        · have HR := Lib.hid (show res = (⟨10, (a : Int), (k2 : Int), -(u : Int), 0, []⟩, 0) by rw [← HIQ.out, if_neg (by rintro (h | ⟨-, h⟩) <;> omega), if_pos rfl])
          have hz63 : ¬ (9223372036854775808 : Int) < (u : Int) := by omega
          have qw : IntKind.i64.wrap (IntKind.u64.wrap (-(u : Int))) = -(u : Int) := neg_u64r (by omega)
          have hz0 : (0 : Int) ≤ (u : Int) := by omega
          clear h64 h63 HIQ
          generalize (u : Int) = z at *
          go_wp2_with fail
          refine (HX.out _).mono ?_
          rintro e w8 ⟨rfl, rfl⟩
          clear HX
          have HN := Lib.hid hN
          clear hN
          go_upto_region 35 with fail
          refine wp_namedR (fun wx => NR w wx ∧ wx.heap[w8.heap.size]? = some (.cells #[.int .i64 10, .int .i64 a, .int .i64 k2, .int .i64 (-z), .int .u64 0, .string ⟨#[]⟩] 39 (0, 0))) ⟨HN.out.quiet ((Below.refl _ _).alloc (Nat.le_refl _) _), heap_alloc_new _ _⟩ ?_
          clear HN
          generalize w8.heap.size = G8 at *
          rintro wx ⟨hN, hg⟩
          have g0 := Lib.cell_of_heap hg 0
          have g1 := Lib.cell_of_heap hg 1
          have g2 := Lib.cell_of_heap hg 2
          have g3 := Lib.cell_of_heap hg 3
          have g4 := Lib.cell_of_heap hg 4
          have g5 := Lib.cell_of_heap hg 5
          simp only [List.getElem?_toArray, List.getElem?_cons_succ, List.getElem?_cons_zero] at g0 g1 g2 g3 g4 g5
          obtain ⟨n0, n1, n2, n3, n4, n5, hfz⟩ := hN.o.cells
          have f0 := hfz 0
          have f1 := hfz 1
          have f2 := hfz 2
          have f3 := hfz 3
          have f4 := hfz 4
          have f5 := hfz 5
          have H9 := Lib.hid hN
          clear hN hfz hg
          go_wp2_with fail
          refine bodyPost_ret (v := trV (⟨10, (a : Int), (k2 : Int), -z, 0, []⟩, 0)) (by simp [results, Tryz.results32, go_sem, trV, tokV, strV, *]) rfl ?_
          exact ⟨by rw [HR.out], setR H9.out.b (Nat.le_refl _) _ _ _ _ _ _⟩
    · have hlt5 := one_lt hq
      have hle5 := oneN_le l [43, 45] (k2 + 1) (by omega)
      have HQ2 := Lib.hid (show (if overN l DD (k2 + 1 + oneN l [43, 45] (k2 + 1)) = 0 then wrongT ((k2 + 1 + oneN l [43, 45] (k2 + 1) : Nat) : Int) 100 else wrongT (a : Int) 101) = res by rw [← HQ.out]; unfold numS2; rw [hq, if_pos rfl])
      have HI := Lib.hid (hN.yes hq hl (by decide) (by omega))
      unfold strV at HI
      obtain ⟨k5, hk5⟩ : ∃ x, x = k2 + 1 := ⟨_, rfl⟩
      have q5 : IntKind.i64.wrap ((k2 : Int) + 1) = k5 := by rw [IntWalk.i64_in _ (by omega)]; omega
      rw [← hk5] at HQ2 hle5
      have hgt5 : k2 < k5 := by omega
      have hle5' : k5 ≤ l.length := by omega
      clear HQ hN hq hk5 hlt5
      go_wp2_with fail
      refine HI.out.mono ?_
      rintro e w7 ⟨rfl, hN7⟩
      clear HI
      have HI := Lib.hid (hN7.is l [43, 45] k5 hl (by decide) (by omega))
      unfold strV at HI
      clear hN7
      obtain ⟨k6, hk6⟩ : ∃ x, x = k5 + oneN l [43, 45] k5 := ⟨_, rfl⟩
      rw [← hk6] at HQ2 hle5
      have hcut6 : (oneB l [43, 45] k5 = true ∧ k6 = k5 + 1) ∨ (oneB l [43, 45] k5 = false ∧ k6 = k5) := by
        rw [hk6]; unfold oneN
        cases oneB l [43, 45] k5 <;> simp
      clear hk6
      go_wp2_with fail
      refine HI.out.mono ?_
      rintro e w8 ⟨rfl, hN8⟩
      have HN8 := Lib.hid hN8
      clear hN8 HI
      generalize oneB l [43, 45] k5 = pm at *
      have HC6 := Lib.hid hcut6
      clear hcut6
      go_upto_if 62 with fail
      go_cut [6] (fun s6 wx => s6 = .int .i64 k6 ∧ w8 = wx)
      case first =>
        rcases HC6.out with ⟨rfl, hk⟩ | ⟨rfl, hk⟩
        · have q6 : IntKind.i64.wrap ((k5 : Int) + 1) = k6 := by rw [IntWalk.i64_in _ (by omega)]; omega
          clear hk
          go_wp2_with fail
          go_meet
          exact ⟨rfl, rfl⟩
        · subst hk
          go_wp2_with fail
          go_meet
          exact ⟨rfl, rfl⟩
      case rest =>
      obtain ⟨rfl, rfl⟩ := hcut
      have hge6 : k5 ≤ k6 := by rcases HC6.out with ⟨-, h⟩ | ⟨-, h⟩ <;> omega
      clear HC6
      have hov6 := overN_le l DD k6
      obtain ⟨k7, hk7⟩ : ∃ x, x = k6 + overN l DD k6 := ⟨_, rfl⟩
      have HD := Lib.hid (fun W => rdig l k6 k7 hk7 hle5 hl W)
      unfold strV at HD
      by_cases hd6 : overN l DD k6 = 0
      · have HR := Lib.hid (show res = wrongT (k6 : Int) 100 by rw [← HQ2.out, if_pos hd6])
        have hk7' : k7 = k6 := by omega
        subst hk7'
        have hez : ((k7 : Int) == (k7 : Int)) = true := by simp
        have hN := HN8.out
        clear HN8 HQ2 hd6 hk7
        go_wp2_with fail
        refine (HD.out _).mono ?_
        rintro e w6 ⟨rfl, rfl⟩
        have HN := Lib.hid hN
        clear hN
        go_wp2_with fail
        refine (HN.out.wrong _ _).mono ?_
        rintro o w9 ⟨rfl, hN9⟩
        clear HN
        obtain ⟨n0, n1, n2, n3, n4, n5, hfz⟩ := hN9.o.cells
        have f0 := hfz 0
        have f1 := hfz 1
        have f2 := hfz 2
        have f3 := hfz 3
        have f4 := hfz 4
        have f5 := hfz 5
        have H9 := Lib.hid hN9
        clear hN9 hfz
        go_wp2_with fail
        refine bodyPost_ret (v := trV (wrongT (k7 : Int) 100)) (by simp [results, Tryz.results32, go_sem, trV, tokV, strV, wrongT, *]) rfl ?_
        exact ⟨by rw [HR.out], setR H9.out.b (Nat.le_refl _) _ _ _ _ _ _⟩
      · have HR := Lib.hid (show res = wrongT (a : Int) 101 by rw [← HQ2.out, if_neg hd6])
        have hez : ((k7 : Int) == (k6 : Int)) = false := by simp; omega
        have hgt7 : k2 < k7 := by omega
        have hN := HN8.out
        clear HN8 HQ2 hd6 hk7
        go_wp2_with fail
        refine (HD.out _).mono ?_
        rintro e w6 ⟨rfl, rfl⟩
        have HX := Lib.hid (rvalue_any _ HP.out (by simp only [List.length_take, List.length_drop]; omega))
        have hgt : (k2 : Int) < (k7 : Int) := by omega
        have hgtn : k2 < k7 := by omega
        go_wp2_with fail
        refine (HX.out _).mono ?_
        rintro e w8 ⟨rfl, rfl⟩
        generalize hvv : (if 2 ^ 64 ≤ valU ((l.drop k1).take (k2 - k1)) then Value.tuple #[.int .u64 0, .bool false] else .tuple #[.int .u64 (valU ((l.drop k1).take (k2 - k1))), .bool true]) = vv
        obtain ⟨u0, b0, rfl⟩ : ∃ (u0 : Int) (b0 : Bool), vv = .tuple #[.int .u64 u0, .bool b0] := by
          rw [← hvv]
          split
          · exact ⟨_, _, rfl⟩
          · exact ⟨_, _, rfl⟩
        clear hvv HX
        have HN := Lib.hid hN
        clear hN
        go_wp2_with fail
        refine (HN.out.wrong _ _).mono ?_
        rintro o w9 ⟨rfl, hN9⟩
        clear HN
        obtain ⟨n0, n1, n2, n3, n4, n5, hfz⟩ := hN9.o.cells
        have f0 := hfz 0
        have f1 := hfz 1
        have f2 := hfz 2
        have f3 := hfz 3
        have f4 := hfz 4
        have f5 := hfz 5
        have H9 := Lib.hid hN9
        clear hN9 hfz
        go_wp2_with fail
        refine bodyPost_ret (v := trV (wrongT (a : Int) 101)) (by simp [results, Tryz.results32, go_sem, trV, tokV, strV, wrongT, *]) rfl ?_
        exact ⟨by rw [HR.out], setR H9.out.b (Nat.le_refl _) _ _ _ _ _ _⟩
  · have hlt3 := one_lt hp
    have hov := overN_le l DD (k2 + 1)
    have HQ0 := Lib.hid (show (if overN l DD (k2 + 1) = 0 then wrongT ((k2 + 1 : Nat) : Int) 100 else numS2 nb l a k1 k2 true (k2 + 1 + overN l DD (k2 + 1))) = res by rw [← HRS.out]; unfold numS1; rw [hp, if_pos rfl])
    have HI := Lib.hid (HN2.out.yes hp hl (by decide) (by omega))
    unfold strV at HI
    obtain ⟨kk, hkk⟩ : ∃ x, x = k2 + 1 := ⟨_, rfl⟩
    have q1 : IntKind.i64.wrap ((k2 : Int) + 1) = kk := by rw [IntWalk.i64_in _ (by omega)]; omega
    rw [← hkk] at HQ0 hov
    obtain ⟨k3, hk3⟩ : ∃ x, x = kk + overN l DD kk := ⟨_, rfl⟩
    have HD := Lib.hid (fun W => rdig l kk k3 hk3 (by omega) hl W)
    unfold strV at HD
    by_cases hd3 : overN l DD kk = 0
    · have HR := Lib.hid (show res = wrongT (kk : Int) 100 by rw [← HQ0.out, if_pos hd3])
      have hk3' : k3 = kk := by omega
      subst hk3'
      have hez : ((k3 : Int) == (k3 : Int)) = true := by simp
      clear hp HRS HN2 HQ0 hd3 hk3 hkk
      go_wp2_with fail
      refine HI.out.mono ?_
      rintro e w5 ⟨rfl, hN⟩
      clear HI
      go_wp2_with fail
      refine (HD.out _).mono ?_
      rintro e w6 ⟨rfl, rfl⟩
      have HN := Lib.hid hN
      clear hN
      go_wp2_with fail
      refine (HN.out.wrong _ _).mono ?_
      rintro o w9 ⟨rfl, hN9⟩
      clear HN
      obtain ⟨n0, n1, n2, n3, n4, n5, hfz⟩ := hN9.o.cells
      have f0 := hfz 0
      have f1 := hfz 1
      have f2 := hfz 2
      have f3 := hfz 3
      have f4 := hfz 4
      have f5 := hfz 5
      have H9 := Lib.hid hN9
      clear hN9 hfz
      go_wp2_with fail
      refine bodyPost_ret (v := trV (wrongT (k3 : Int) 100)) (by simp [results, Tryz.results32, go_sem, trV, tokV, strV, wrongT, *]) rfl ?_
      exact ⟨by rw [HR.out], setR H9.out.b (Nat.le_refl _) _ _ _ _ _ _⟩
    · have HQ := Lib.hid (show numS2 nb l a k1 k2 true k3 = res by rw [← HQ0.out, if_neg hd3, hk3])
      have hez : ((k3 : Int) == (kk : Int)) = false := by simp; omega
      have hgt3 : k2 < k3 := by omega
      have hle3' : k3 ≤ l.length := by omega
      clear hp HRS HN2 HQ0 hd3 hk3 hkk hov
      go_wp2_with fail
      refine HI.out.mono ?_
      rintro e w5 ⟨rfl, hN⟩
      clear HI
      go_wp2_with fail
      refine (HD.out _).mono ?_
      rintro e w6 ⟨rfl, rfl⟩
      clear HD
      cases hq : oneB l [101, 69] k3
      · have HQ2 := Lib.hid (show numS3 nb l a k1 k2 true k3 = res by rw [← HQ.out]; unfold numS2; rw [hq, if_neg Bool.false_ne_true])
        have HI := Lib.hid (hN.no hq hl (by decide) (by omega))
        unfold strV at HI
        clear HQ hN hq
        go_wp2_with fail
        refine HI.out.mono ?_
        rintro e w7 ⟨rfl, hN⟩
        clear HI
        have HR := Lib.hid (show res = wrongT (a : Int) 101 by rw [← HQ2.out]; unfold numS3; rw [if_pos rfl])
        have HX := Lib.hid (rvalue_any _ HP.out (by simp only [List.length_take, List.length_drop]; omega))
        have hgt : (k2 : Int) < (k3 : Int) := by omega
        have hgtn : k2 < k3 := by omega
        go_wp2_with fail
        refine (HX.out _).mono ?_
        rintro e w8 ⟨rfl, rfl⟩
        generalize hvv : (if 2 ^ 64 ≤ valU ((l.drop k1).take (k2 - k1)) then Value.tuple #[.int .u64 0, .bool false] else .tuple #[.int .u64 (valU ((l.drop k1).take (k2 - k1))), .bool true]) = vv
        obtain ⟨u0, b0, rfl⟩ : ∃ (u0 : Int) (b0 : Bool), vv = .tuple #[.int .u64 u0, .bool b0] := by
          rw [← hvv]
          split
          · exact ⟨_, _, rfl⟩
          · exact ⟨_, _, rfl⟩
        clear hvv HX
        have HN := Lib.hid hN
        clear hN
        go_wp2_with fail
        refine (HN.out.wrong _ _).mono ?_
        rintro o w9 ⟨rfl, hN9⟩
        clear HN
        obtain ⟨n0, n1, n2, n3, n4, n5, hfz⟩ := hN9.o.cells
        have f0 := hfz 0
        have f1 := hfz 1
        have f2 := hfz 2
        have f3 := hfz 3
        have f4 := hfz 4
        have f5 := hfz 5
        have H9 := Lib.hid hN9
        clear hN9 hfz
        go_wp2_with fail
        refine bodyPost_ret (v := trV (wrongT (a : Int) 101)) (by simp [results, Tryz.results32, go_sem, trV, tokV, strV, wrongT, *]) rfl ?_
        exact ⟨by rw [HR.out], setR H9.out.b (Nat.le_refl _) _ _ _ _ _ _⟩
      · have hlt5 := one_lt hq
        have hle5 := oneN_le l [43, 45] (k3 + 1) (by omega)
        have HQ2 := Lib.hid (show (if overN l DD (k3 + 1 + oneN l [43, 45] (k3 + 1)) = 0 then wrongT ((k3 + 1 + oneN l [43, 45] (k3 + 1) : Nat) : Int) 100 else wrongT (a : Int) 101) = res by rw [← HQ.out]; unfold numS2; rw [hq, if_pos rfl])
        have HI := Lib.hid (hN.yes hq hl (by decide) (by omega))
        unfold strV at HI
        obtain ⟨k5, hk5⟩ : ∃ x, x = k3 + 1 := ⟨_, rfl⟩
        have q5 : IntKind.i64.wrap ((k3 : Int) + 1) = k5 := by rw [IntWalk.i64_in _ (by omega)]; omega
        rw [← hk5] at HQ2 hle5
        have hgt5 : k2 < k5 := by omega
        have hle5' : k5 ≤ l.length := by omega
        clear HQ hN hq hk5 hlt5
        go_wp2_with fail
        refine HI.out.mono ?_
        rintro e w7 ⟨rfl, hN7⟩
        clear HI
        have HI := Lib.hid (hN7.is l [43, 45] k5 hl (by decide) (by omega))
        unfold strV at HI
        clear hN7
        obtain ⟨k6, hk6⟩ : ∃ x, x = k5 + oneN l [43, 45] k5 := ⟨_, rfl⟩
        rw [← hk6] at HQ2 hle5
        have hcut6 : (oneB l [43, 45] k5 = true ∧ k6 = k5 + 1) ∨ (oneB l [43, 45] k5 = false ∧ k6 = k5) := by
          rw [hk6]; unfold oneN
          cases oneB l [43, 45] k5 <;> simp
        clear hk6
        go_wp2_with fail
        refine HI.out.mono ?_
        rintro e w8 ⟨rfl, hN8⟩
        have HN8 := Lib.hid hN8
        clear hN8 HI
        generalize oneB l [43, 45] k5 = pm at *
        have HC6 := Lib.hid hcut6
        clear hcut6
        go_upto_if 62 with fail
        go_cut [6] (fun s6 wx => s6 = .int .i64 k6 ∧ w8 = wx)
        case first =>
          rcases HC6.out with ⟨rfl, hk⟩ | ⟨rfl, hk⟩
          · have q6 : IntKind.i64.wrap ((k5 : Int) + 1) = k6 := by rw [IntWalk.i64_in _ (by omega)]; omega
            clear hk
            go_wp2_with fail
            go_meet
            exact ⟨rfl, rfl⟩
          · subst hk
            go_wp2_with fail
            go_meet
            exact ⟨rfl, rfl⟩
        case rest =>
        obtain ⟨rfl, rfl⟩ := hcut
        have hge6 : k5 ≤ k6 := by rcases HC6.out with ⟨-, h⟩ | ⟨-, h⟩ <;> omega
        clear HC6
        have hov6 := overN_le l DD k6
        obtain ⟨k7, hk7⟩ : ∃ x, x = k6 + overN l DD k6 := ⟨_, rfl⟩
        have HD := Lib.hid (fun W => rdig l k6 k7 hk7 hle5 hl W)
        unfold strV at HD
        by_cases hd6 : overN l DD k6 = 0
        · have HR := Lib.hid (show res = wrongT (k6 : Int) 100 by rw [← HQ2.out, if_pos hd6])
          have hk7' : k7 = k6 := by omega
          subst hk7'
          have hez : ((k7 : Int) == (k7 : Int)) = true := by simp
          have hN := HN8.out
          clear HN8 HQ2 hd6 hk7
          go_wp2_with fail
          refine (HD.out _).mono ?_
          rintro e w6 ⟨rfl, rfl⟩
          have HN := Lib.hid hN
          clear hN
          go_wp2_with fail
          refine (HN.out.wrong _ _).mono ?_
          rintro o w9 ⟨rfl, hN9⟩
          clear HN
          obtain ⟨n0, n1, n2, n3, n4, n5, hfz⟩ := hN9.o.cells
          have f0 := hfz 0
          have f1 := hfz 1
          have f2 := hfz 2
          have f3 := hfz 3
          have f4 := hfz 4
          have f5 := hfz 5
          have H9 := Lib.hid hN9
          clear hN9 hfz
          go_wp2_with fail
          refine bodyPost_ret (v := trV (wrongT (k7 : Int) 100)) (by simp [results, Tryz.results32, go_sem, trV, tokV, strV, wrongT, *]) rfl ?_
          exact ⟨by rw [HR.out], setR H9.out.b (Nat.le_refl _) _ _ _ _ _ _⟩
        · have HR := Lib.hid (show res = wrongT (a : Int) 101 by rw [← HQ2.out, if_neg hd6])
          have hez : ((k7 : Int) == (k6 : Int)) = false := by simp; omega
          have hgt7 : k2 < k7 := by omega
          have hN := HN8.out
          clear HN8 HQ2 hd6 hk7
          go_wp2_with fail
          refine (HD.out _).mono ?_
          rintro e w6 ⟨rfl, rfl⟩
          have HX := Lib.hid (rvalue_any _ HP.out (by simp only [List.length_take, List.length_drop]; omega))
          have hgt : (k2 : Int) < (k7 : Int) := by omega
          have hgtn : k2 < k7 := by omega
          go_wp2_with fail
          refine (HX.out _).mono ?_
          rintro e w8 ⟨rfl, rfl⟩
          generalize hvv : (if 2 ^ 64 ≤ valU ((l.drop k1).take (k2 - k1)) then Value.tuple #[.int .u64 0, .bool false] else .tuple #[.int .u64 (valU ((l.drop k1).take (k2 - k1))), .bool true]) = vv
          obtain ⟨u0, b0, rfl⟩ : ∃ (u0 : Int) (b0 : Bool), vv = .tuple #[.int .u64 u0, .bool b0] := by
            rw [← hvv]
            split
            · exact ⟨_, _, rfl⟩
            · exact ⟨_, _, rfl⟩
          clear hvv HX
          have HN := Lib.hid hN
          clear hN
          go_wp2_with fail
          refine (HN.out.wrong _ _).mono ?_
          rintro o w9 ⟨rfl, hN9⟩
          clear HN
          obtain ⟨n0, n1, n2, n3, n4, n5, hfz⟩ := hN9.o.cells
          have f0 := hfz 0
          have f1 := hfz 1
          have f2 := hfz 2
          have f3 := hfz 3
          have f4 := hfz 4
          have f5 := hfz 5
          have H9 := Lib.hid hN9
          clear hN9 hfz
          go_wp2_with fail
          refine bodyPost_ret (v := trV (wrongT (a : Int) 101)) (by simp [results, Tryz.results32, go_sem, trV, tokV, strV, wrongT, *]) rfl ?_
          exact ⟨by rw [HR.out], setR H9.out.b (Nat.le_refl _) _ _ _ _ _ _⟩
end Go.Proofs.YtgdhepoffnpgiaaGreatDoor
