/- The walk of lex.Next. -/
import Derived.Test.YtccmhhmdenfecaaGreatDoorLv
namespace Go.Proofs.YtccmhhmdenfecaaGreatDoor
set_option linter.unusedVariables false
set_option linter.unusedSimpArgs false
open Go.RowKit Go.Shelf
theorem blank_contains (c : UInt8) : [32, 9, 10, 13].contains c = blankB c := by
  have hall : ∀ n : Fin 256, [32, 9, 10, 13].contains (UInt8.ofNat n.val) = blankB (UInt8.ofNat n.val) := by decide +kernel
  have := hall ⟨c.toNat, c.toNat_lt⟩
  simpa using this
theorem over_blanks (l : List UInt8) (k : Nat) : overN l [32, 9, 10, 13] k = blanksN (l.drop k) := by
  unfold overN blanksN
  congr 1
  congr 1
  funext c
  exact blank_contains c
theorem bl_ascii : ∀ (j : Nat) b, ([32, 9, 10, 13] : List UInt8)[j]? = some b → b.toNat < 128 := by
  intro j b h
  have hm : b ∈ ([32, 9, 10, 13] : List UInt8) := List.mem_of_getElem? h
  have : ∀ c ∈ ([32, 9, 10, 13] : List UInt8), c.toNat < 128 := by decide
  exact this b hm
/-- Where Next stands: its result in the block at the size of w, the reader in the next one. -/
structure NE (w wn : World) : Prop where
  b : Below w.heap.size w wn
  z : w.heap.size < wn.heap.size
  o : Zero6 wn w.heap.size
  g : Glb wn
  gb : Gb wn.heap.size
theorem NE.quiet {w wn w1 : World} (h : NE w wn) (hb : Below wn.heap.size wn w1) : NE w w1 :=
  ⟨h.b.trans (hb.mono (Nat.le_of_lt h.z)), Nat.lt_of_lt_of_le h.z hb.size, (hb.block _ h.z).trans h.o, h.g.below hb h.gb, h.gb.mono hb.size⟩
theorem NE.tch {w wn w1 : World} {R : Nat} (h : NE w wn) (hR : w.heap.size < R) (hG : Gb R) (ht : Tch wn.heap.size [R] wn w1) : NE w w1 := by
  have hb : Below w.heap.size wn w1 := (ht.mono (Nat.le_of_lt h.z) (T' := [R]) fun _ h _ => h).below (by simp; omega)
  refine ⟨h.b.trans hb, Nat.lt_of_lt_of_le h.z ht.size, ht.row h.o h.z (by simp; omega), h.g.tch ht h.gb hG, h.gb.mono ht.size⟩
theorem NE.end6 {w wn : World} (h : NE w wn) (v0 v1 v2 v3 v4 v5 : Value) :
    Below w.heap.size w ((((((wn.setCell ⟨w.heap.size, 0, none⟩ v0).setCell ⟨w.heap.size, 1, none⟩ v1).setCell ⟨w.heap.size, 2, none⟩ v2).setCell ⟨w.heap.size, 3, none⟩ v3).setCell ⟨w.heap.size, 4, none⟩ v4).setCell ⟨w.heap.size, 5, none⟩ v5) :=
  (set6 (B := w.heap.size) (T := []) (Below.tch h.b) (Nat.le_refl _) v0 v1 v2 v3 v4 v5).below (by simp)
theorem NE.wrong {w wn : World} (h : NE w wn) (x e : Int) :
    Calls Tryz.prog 67 #[.int .i64 x, .int .i64 e] wn fun o w1 => o = .returned (.tuple #[.agg #[.int .i64 0, .int .i64 x, .int .i64 x, .int .i64 0, .int .u64 0, .string ⟨#[]⟩], .int .i64 e]) ∧ NE w w1 :=
  (wrong_any x e wn).mono fun _ _ ⟨he, hb⟩ => ⟨he, h.quiet hb⟩
set_option maxHeartbeats 8000000 in
set_option maxRecDepth 100000 in
theorem next_range (l : List UInt8) (a : Int) (w : World) (hl : l.length ≤ 1073741824) (hG : Glb w) (hB : Gb w.heap.size) (ha : a < 0 ∨ l.length < a) :
    Calls Tryz.prog 43 #[strV l, .int .i64 a] w fun o w' => o = .returned (trV (nextM l a)) ∧ Below w.heap.size w w' := by
  have hs : (⟨l.toArray⟩ : ByteArray).size = l.length := by simp [ByteArray.size]
  have HR := Lib.hid (show nextM l a = wrongT 0 6 by unfold nextM; rw [if_pos ha])
  have HI := Lib.hid (And.intro hG hB)
  clear hG hB
  unfold strV
  by_cases h0 : a < 0
  · clear ha
    go_enter Tryz.func43, Tryz.ntmps43
    go_upto_region 1 with fail
    refine wp_named (NE w) ⟨(Below.refl _ w).alloc (Nat.le_refl _) _, by simp, heap_alloc_new _ _, HI.out.1.below ((Below.refl _ w).alloc (Nat.le_refl _) _) HI.out.2, HI.out.2.mono (by simp)⟩ ?_
    rintro wn hN
    go_wp2_with fail
    refine (hN.wrong _ _).mono ?_
    rintro o w9 ⟨rfl, hN9⟩
    clear hN
    obtain ⟨n0, n1, n2, n3, n4, n5, hfz⟩ := hN9.o.cells
    have f0 := hfz 0
    have f1 := hfz 1
    have f2 := hfz 2
    have f3 := hfz 3
    have f4 := hfz 4
    have f5 := hfz 5
    have H9 := Lib.hid hN9
    clear hN9 hfz
    (try unfold trV tokV strV)
    go_wp2_with fail
    refine bodyPost_ret (v := trV (wrongT 0 6)) (by simp [results, Tryz.results43, go_sem, trV, tokV, strV, wrongT, *]) rfl ?_
    exact ⟨by rw [HR.out], H9.out.end6 _ _ _ _ _ _⟩
  · have h1 : (l.length : Int) < a := by omega
    clear ha
    go_enter Tryz.func43, Tryz.ntmps43
    go_upto_region 1 with fail
    refine wp_named (NE w) ⟨(Below.refl _ w).alloc (Nat.le_refl _) _, by simp, heap_alloc_new _ _, HI.out.1.below ((Below.refl _ w).alloc (Nat.le_refl _) _) HI.out.2, HI.out.2.mono (by simp)⟩ ?_
    rintro wn hN
    go_wp2_with fail
    refine (hN.wrong _ _).mono ?_
    rintro o w9 ⟨rfl, hN9⟩
    clear hN
    obtain ⟨n0, n1, n2, n3, n4, n5, hfz⟩ := hN9.o.cells
    have f0 := hfz 0
    have f1 := hfz 1
    have f2 := hfz 2
    have f3 := hfz 3
    have f4 := hfz 4
    have f5 := hfz 5
    have H9 := Lib.hid hN9
    clear hN9 hfz
    (try unfold trV tokV strV)
    go_wp2_with fail
    refine bodyPost_ret (v := trV (wrongT 0 6)) (by simp [results, Tryz.results43, go_sem, trV, tokV, strV, wrongT, *]) rfl ?_
    exact ⟨by rw [HR.out], H9.out.end6 _ _ _ _ _ _⟩
set_option maxHeartbeats 8000000 in
set_option maxRecDepth 100000 in
theorem next_in (l : List UInt8) (a : Nat) (w : World) (hl : l.length ≤ 1073741824) (hG : Glb w) (hB : Gb w.heap.size) (ha : a ≤ l.length) :
    Calls Tryz.prog 43 #[strV l, .int .i64 a] w fun o w' => o = .returned (trV (nextM l a)) ∧ Below w.heap.size w w' := by
  have hs : (⟨l.toArray⟩ : ByteArray).size = l.length := by simp [ByteArray.size]
  have HI := Lib.hid (And.intro hG hB)
  clear hG hB
  have hz0 : ¬ (l.length : Int) < (a : Int) := by omega
  have hov := overN_le l [32, 9, 10, 13] a
  generalize hres : nextM l a = res
  have hres2 : tokM (l.drop (a + overN l [32, 9, 10, 13] a)) ((a + overN l [32, 9, 10, 13] a : Nat) : Int) = res := by
    rw [← hres]
    unfold nextM
    rw [if_neg (by omega), Int.toNat_natCast, over_blanks, List.drop_drop, Int.natCast_add]
  clear hres
  have HR := Lib.hid hres2
  clear hres2
  unfold strV
  go_enter Tryz.func43, Tryz.ntmps43
  go_upto_region 4 with fail
  refine wp_named (fun wn => NE w wn ∧ LRow wn (w.heap.size + 1) l a 0) ⟨⟨((Below.refl _ w).alloc (Nat.le_refl _) _).alloc (by simp) _, by simp; omega, (Lib.alloc_old _ _ _ (by simp)).trans (heap_alloc_new _ _), HI.out.1.below (((Below.refl _ w).alloc (Nat.le_refl _) _).alloc (by simp) _) HI.out.2, HI.out.2.mono (by simp; omega)⟩, ?_⟩ ?_
  · have := heap_alloc_new (w.alloc (.cells #[.int .i64 0, .int .i64 0, .int .i64 0, .int .i64 0, .int .u64 0, .string .empty] 43 (0, 0))) (.cells #[strV l, .int .i64 a, .int .i64 0] 118 (0, 0))
    rw [World.size_alloc] at this
    exact this
  rintro wn ⟨hN, hr⟩
  have hGR : Gb (w.heap.size + 1) := HI.out.2.mono (by omega)
  have HO := over_any l [32, 9, 10, 13] a 0 (w.heap.size + 1) wn hr ha hl (by decide) bl_ascii
  unfold strV at HO
  have HN := Lib.hid hN
  have HO2 := Lib.hid HO
  have hk : a + overN l [32, 9, 10, 13] a ≤ l.length := by omega
  clear HO hN hr
  generalize decide (0 < overN l [32, 9, 10, 13] a) = bb at *
  generalize a + overN l [32, 9, 10, 13] a = k at *
  clear hov
  go_wp2_with fail
  refine HO2.out.mono ?_
  rintro e w2 ⟨rfl, ht, hr2⟩
  have hN2 := HN.out.tch (by omega) hGR ht
  obtain ⟨c0, c1, c2, cf⟩ := hr2.cells
  have f2 := cf 2
  have hr3 := hr2.from k
  have hN3 : NE w (w2.setCell ⟨w.heap.size + 1, 2, none⟩ (.int .i64 k)) := hN2.tch (by omega) hGR ((Tch.refl _ _ w2).set (.inl (by simp)) _)
  clear ht cf hN2 hr2 HO2 HN c0 hz0
  go_upto_region 6 with fail
  refine wp_named (fun wn => NE w wn ∧ LRow wn (w.heap.size + 1) l k k) ⟨hN3, hr3⟩ ?_
  clear c1 c2 f2 hN3 hr3
  rintro w4 ⟨hN4, hr4⟩
  by_cases hend : k = l.length
  · obtain ⟨-, c1, -, -⟩ := hr4.cells
    have hkz : ((k : Int) == (l.length : Int)) = true := by rw [hend]; simp
    have HR2 := Lib.hid (show res = (⟨0, k, k, 0, 0, []⟩, 0) by rw [← HR.out, List.drop_of_length_le (by omega)]; rfl)
    have HC := Lib.hid (token_any l ⟨0, 0, 0, 0, 0, []⟩ (k : Int) k (w.heap.size + 1) w4 hr4)
    unfold tokV strV at HC
    have HN := Lib.hid hN4
    clear hend hN4 hr4
    go_wp2_with fail
    refine HC.out.mono ?_
    rintro o w8 ⟨rfl, hb⟩
    have hN9 := HN.out.quiet hb
    clear hb HC HN
    obtain ⟨n0, n1, n2, n3, n4, n5, hfz⟩ := hN9.o.cells
    have f0 := hfz 0
    have f1 := hfz 1
    have f2 := hfz 2
    have f3 := hfz 3
    have f4 := hfz 4
    have f5 := hfz 5
    have H9 := Lib.hid hN9
    clear hN9 hfz
    (try unfold trV tokV strV)
    go_wp2_with fail
    refine bodyPost_ret (v := trV (⟨0, k, k, 0, 0, []⟩, 0)) (by simp [results, Tryz.results43, go_sem, trV, tokV, strV, *]) rfl ?_
    exact ⟨by rw [HR2.out], H9.out.end6 _ _ _ _ _ _⟩
  have hklt : k < l.length := by omega
  have hkz : ((k : Int) == (l.length : Int)) = false := by simp; omega
  have hltz : (k : Int) < (l.length : Int) := by omega
  have hidx : (⟨l.toArray⟩ : ByteArray)[k]'(by omega) = l.getD k 0 := by
    show l.toArray[k] = _
    simp [List.getD_eq_getElem?_getD, hklt]
  have hdc : l.drop k = l.getD k 0 :: l.drop (k + 1) := drop_cons hklt
  generalize l.getD k 0 = c at *
  obtain ⟨-, c1, -, -⟩ := hr4.cells
  have HD := Lib.hid hdc
  have HN4 := Lib.hid hN4
  have HR4 := Lib.hid hr4
  have hrl := hr4.lt
  clear hdc hend hN4 hr4
  go_wp2_with fail
  refine (spelt_any _).mono ?_
  rintro e w5 ⟨rfl, hw5⟩
  have hN5 : NE w w5 := HN4.out.quiet (by rw [hw5]; exact (Below.refl _ _).alloc (Nat.le_refl _) _)
  have hr5 : LRow w5 (w.heap.size + 1) l k k := by rw [hw5]; exact (Lib.alloc_old _ _ _ hrl).trans HR4.out
  have hg5 : w5.heap[w4.heap.size]? = some (.map (sE 9) 9) := by rw [hw5]; exact heap_alloc_new _ _
  clear hw5 HN4 HR4 hrl c1
  cases hsp : spellW c with
  | some xk =>
    obtain ⟨x, kd⟩ := xk
    have hlk := spelt_yes hsp hg5
    have HC := Lib.hid (word_any l c x kd k (w.heap.size + 1) w5 hsp hr5 hl hk)
    generalize hrv : wordM x kd (l.drop k) k = rv at HC
    have HR2 := Lib.hid (show res = rv by rw [← hrv, ← HR.out]; exact by rw [HD.out, tokM, hsp])
    obtain ⟨⟨rk, rf, rt, rn, ru, rx⟩, re⟩ := rv
    simp only [strV, trV, tokV] at HC
    have HN := Lib.hid hN5
    clear hN5 hrv hr5 hsp hg5
    go_wp2_with fail
    refine HC.out.mono ?_
    rintro o w8 ⟨rfl, ht⟩
    have hN9 := HN.out.tch (by omega) hGR ht
    clear ht HC HN
    obtain ⟨n0, n1, n2, n3, n4, n5, hfz⟩ := hN9.o.cells
    have f0 := hfz 0
    have f1 := hfz 1
    have f2 := hfz 2
    have f3 := hfz 3
    have f4 := hfz 4
    have f5 := hfz 5
    have H9 := Lib.hid hN9
    clear hN9 hfz
    (try unfold trV tokV strV)
    go_wp2_with fail
    refine bodyPost_ret (v := trV (⟨rk, rf, rt, rn, ru, rx⟩, re)) (by simp [results, Tryz.results43, go_sem, trV, tokV, strV, wrongT, *]) rfl ?_
    exact ⟨by rw [HR2.out], H9.out.end6 _ _ _ _ _ _⟩
  | none =>
    have hlk := spelt_no hsp hg5
    by_cases h34 : c = 34
    · have e34 : ((c.toNat : Int) == 34) = true := by rw [h34]; rfl
      have HC := Lib.hid (literal_any l k (w.heap.size + 1) w5 hr5 hl hk hN5.g hN5.gb)
      generalize hrv : litM (l.drop k) k = rv at HC
      have HR2 := Lib.hid (show res = rv by rw [← hrv, ← HR.out]; exact by rw [HD.out, tokM, hsp]; dsimp only; rw [if_pos h34])
      obtain ⟨⟨rk, rf, rt, rn, ru, rx⟩, re⟩ := rv
      simp only [strV, trV, tokV] at HC
      have HN := Lib.hid hN5
      clear hN5 hrv hr5 hsp hg5 h34
      go_wp2_with fail
      refine HC.out.mono ?_
      rintro o w8 ⟨rfl, ht⟩
      have hN9 := HN.out.tch (by omega) hGR ht
      clear ht HC HN
      obtain ⟨n0, n1, n2, n3, n4, n5, hfz⟩ := hN9.o.cells
      have f0 := hfz 0
      have f1 := hfz 1
      have f2 := hfz 2
      have f3 := hfz 3
      have f4 := hfz 4
      have f5 := hfz 5
      have H9 := Lib.hid hN9
      clear hN9 hfz
      (try unfold trV tokV strV)
      go_wp2_with fail
      refine bodyPost_ret (v := trV (⟨rk, rf, rt, rn, ru, rx⟩, re)) (by simp [results, Tryz.results43, go_sem, trV, tokV, strV, wrongT, *]) rfl ?_
      exact ⟨by rw [HR2.out], H9.out.end6 _ _ _ _ _ _⟩
    have e34 : ((c.toNat : Int) == 34) = false := u8_ne h34
    by_cases h45 : c = 45
    · have e45 : ((c.toNat : Int) == 45) = true := by rw [h45]; rfl
      have HC := Lib.hid (number_any l k (w.heap.size + 1) w5 hr5 hGR hl hk hN5.g hN5.gb)
      generalize hrv : numS l k = rv at HC
      have HR2 := Lib.hid (show res = rv by rw [← hrv, ← HR.out]; exact by rw [numS_eq, HD.out, tokM, hsp]; dsimp only; rw [if_neg h34, if_pos (.inl h45)])
      obtain ⟨⟨rk, rf, rt, rn, ru, rx⟩, re⟩ := rv
      simp only [strV, trV, tokV] at HC
      have HN := Lib.hid hN5
      clear hN5 hrv hr5 hsp hg5 h34 h45
      go_wp2_with fail
      refine HC.out.mono ?_
      rintro o w8 ⟨rfl, ht⟩
      have hN9 := HN.out.tch (by omega) hGR ht
      clear ht HC HN
      obtain ⟨n0, n1, n2, n3, n4, n5, hfz⟩ := hN9.o.cells
      have f0 := hfz 0
      have f1 := hfz 1
      have f2 := hfz 2
      have f3 := hfz 3
      have f4 := hfz 4
      have f5 := hfz 5
      have H9 := Lib.hid hN9
      clear hN9 hfz
      (try unfold trV tokV strV)
      go_wp2_with fail
      refine bodyPost_ret (v := trV (⟨rk, rf, rt, rn, ru, rx⟩, re)) (by simp [results, Tryz.results43, go_sem, trV, tokV, strV, wrongT, *]) rfl ?_
      exact ⟨by rw [HR2.out], H9.out.end6 _ _ _ _ _ _⟩
    have e45 : ((c.toNat : Int) == 45) = false := u8_ne h45
    by_cases h48 : 48 ≤ c.toNat
    · have z48 : (48 : Int) ≤ (c.toNat : Int) := by omega
      by_cases h57 : c.toNat ≤ 57
      · have z57 : (c.toNat : Int) ≤ 57 := by omega
        have hdg : digB c = true := by unfold digB; simp [h48, h57]
        have HC := Lib.hid (number_any l k (w.heap.size + 1) w5 hr5 hGR hl hk hN5.g hN5.gb)
        generalize hrv : numS l k = rv at HC
        have HR2 := Lib.hid (show res = rv by rw [← hrv, ← HR.out]; exact by rw [numS_eq, HD.out, tokM, hsp]; dsimp only; rw [if_neg h34, if_pos (.inr hdg)])
        obtain ⟨⟨rk, rf, rt, rn, ru, rx⟩, re⟩ := rv
        simp only [strV, trV, tokV] at HC
        have HN := Lib.hid hN5
        clear hN5 hrv hr5 hsp hg5 h34 h45 h48 h57 hdg
        go_wp2_with fail
        refine HC.out.mono ?_
        rintro o w8 ⟨rfl, ht⟩
        have hN9 := HN.out.tch (by omega) hGR ht
        clear ht HC HN
        obtain ⟨n0, n1, n2, n3, n4, n5, hfz⟩ := hN9.o.cells
        have f0 := hfz 0
        have f1 := hfz 1
        have f2 := hfz 2
        have f3 := hfz 3
        have f4 := hfz 4
        have f5 := hfz 5
        have H9 := Lib.hid hN9
        clear hN9 hfz
        (try unfold trV tokV strV)
        go_wp2_with fail
        refine bodyPost_ret (v := trV (⟨rk, rf, rt, rn, ru, rx⟩, re)) (by simp [results, Tryz.results43, go_sem, trV, tokV, strV, wrongT, *]) rfl ?_
        exact ⟨by rw [HR2.out], H9.out.end6 _ _ _ _ _ _⟩
      · have z57 : ¬ (c.toNat : Int) ≤ 57 := by omega
        have HR2 := Lib.hid (show res = wrongT k 100 by rw [← HR.out, HD.out, tokM, hsp]; dsimp only; rw [if_neg h34, if_neg (by rintro (h | h); exact h45 h; unfold digB at h; simp at h; omega)])
        obtain ⟨-, c1, -, -⟩ := hr5.cells
        have HN := Lib.hid hN5
        clear hN5 hr5 hsp hg5 h34 h45 h48 h57
        go_wp2_with fail
        refine (HN.out.wrong _ _).mono ?_
        rintro o w9 ⟨rfl, hN9⟩
        obtain ⟨n0, n1, n2, n3, n4, n5, hfz⟩ := hN9.o.cells
        have f0 := hfz 0
        have f1 := hfz 1
        have f2 := hfz 2
        have f3 := hfz 3
        have f4 := hfz 4
        have f5 := hfz 5
        have H9 := Lib.hid hN9
        clear hN9 hfz
        (try unfold trV tokV strV)
        go_wp2_with fail
        refine bodyPost_ret (v := trV (wrongT (k : Int) 100)) (by simp [results, Tryz.results43, go_sem, trV, tokV, strV, wrongT, *]) rfl ?_
        exact ⟨by rw [HR2.out], H9.out.end6 _ _ _ _ _ _⟩
    · have z48 : ¬ (48 : Int) ≤ (c.toNat : Int) := by omega
      have HR2 := Lib.hid (show res = wrongT k 100 by rw [← HR.out, HD.out, tokM, hsp]; dsimp only; rw [if_neg h34, if_neg (by rintro (h | h); exact h45 h; unfold digB at h; simp at h; omega)])
      obtain ⟨-, c1, -, -⟩ := hr5.cells
      have HN := Lib.hid hN5
      clear hN5 hr5 hsp hg5 h34 h45 h48
      go_wp2_with fail
      refine (HN.out.wrong _ _).mono ?_
      rintro o w9 ⟨rfl, hN9⟩
      obtain ⟨n0, n1, n2, n3, n4, n5, hfz⟩ := hN9.o.cells
      have f0 := hfz 0
      have f1 := hfz 1
      have f2 := hfz 2
      have f3 := hfz 3
      have f4 := hfz 4
      have f5 := hfz 5
      have H9 := Lib.hid hN9
      clear hN9 hfz
      (try unfold trV tokV strV)
      go_wp2_with fail
      refine bodyPost_ret (v := trV (wrongT (k : Int) 100)) (by simp [results, Tryz.results43, go_sem, trV, tokV, strV, wrongT, *]) rfl ?_
      exact ⟨by rw [HR2.out], H9.out.end6 _ _ _ _ _ _⟩
theorem next_any (l : List UInt8) (a : Int) (w : World) (hl : l.length ≤ 1073741824) (hG : Glb w) (hB : Gb w.heap.size) :
    Calls Tryz.prog 43 #[strV l, .int .i64 a] w fun o w' => o = .returned (trV (nextM l a)) ∧ Below w.heap.size w w' := by
  by_cases h : a < 0 ∨ l.length < a
  · exact next_range l a w hl hG hB h
  · obtain ⟨k, rfl⟩ : ∃ k : Nat, a = k := ⟨a.toNat, by omega⟩
    exact next_in l k w hl hG hB (by omega)
end Go.Proofs.YtccmhhmdenfecaaGreatDoor
