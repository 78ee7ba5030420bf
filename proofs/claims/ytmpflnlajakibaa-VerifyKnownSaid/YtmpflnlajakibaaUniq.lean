/- The plain model of verify: what is added to the data checked is new. No program here. -/
import Derived.Test.YtmpflnlajakibaaA6
namespace Go.Proofs.Ytmpflnlajakibaa
set_option linter.unusedVariables false
set_option linter.unusedSimpArgs false
open Go.RowKit
/- What list.At finds may be read: as in the walk of vector, which this text doesn't wait for. -/
theorem elem_legal2 {t : Int} (h : vecB t = true) : legalB (elemOf t) = true := by
  by_cases ho : t < 0 ∨ 37 ≤ t
  · simp [vecB, isOf_out ho] at h
  have h37 : t = 0 ∨ t = 1 ∨ t = 2 ∨ t = 3 ∨ t = 4 ∨ t = 5 ∨ t = 6 ∨ t = 7 ∨ t = 8 ∨ t = 9 ∨ t = 10 ∨ t = 11 ∨ t = 12 ∨ t = 13 ∨ t = 14 ∨ t = 15 ∨ t = 16 ∨ t = 17 ∨ t = 18 ∨ t = 19 ∨ t = 20 ∨ t = 21 ∨ t = 22 ∨ t = 23 ∨ t = 24 ∨ t = 25 ∨ t = 26 ∨ t = 27 ∨ t = 28 ∨ t = 29 ∨ t = 30 ∨ t = 31 ∨ t = 32 ∨ t = 33 ∨ t = 34 ∨ t = 35 ∨ t = 36 := by omega
  rcases h37 with rfl | rfl | rfl | rfl | rfl | rfl | rfl | rfl | rfl | rfl | rfl | rfl | rfl | rfl | rfl | rfl | rfl | rfl | rfl | rfl | rfl | rfl | rfl | rfl | rfl | rfl | rfl | rfl | rfl | rfl | rfl | rfl | rfl | rfl | rfl | rfl | rfl
  all_goals first | rfl | (revert h; decide)
theorem lat_may2 {L : List UInt8} {p q t k i : Int} (h : latE L p q t k i = 0) : mayE L.length (latP L p q t k i) (latQ L p q t k i) (latT L p q t k i) (latW L p q t k i) = 0 ∧ lfindE L p q t k = 0 ∧ 0 ≤ i ∧ i < lCnt L p q t k := by
  have he : lfindE L p q t k = 0 := by
    by_cases he : lfindE L p q t k = 0
    · exact he
    · simp [latE, he] at h
  have hi : ¬ (i < 0 ∨ lCnt L p q t k ≤ i) := by
    intro hi; simp [latE, he, hi] at h
  obtain ⟨g0, gv, g1, -, g2, g3, g4, g5, g6, -, -⟩ := lfindE_zero he
  obtain ⟨-, -, hk, -, -, -, k1, k8, -⟩ := mayE_zero (targetE_zero g0).1
  refine ⟨?_, he, by omega, by omega⟩
  have e1 : latP L p q t k i = lAt L p q t k + i * k := by simp [latP, h]
  have e2 : latQ L p q t k i = k := by simp [latQ, h]
  have ht := tagsOf_bd t
  have y1 : lCnt L p q t k * (k + tagsOf t) = lCnt L p q t k * k + lCnt L p q t k * tagsOf t := by rw [Int.mul_add]
  have y2 : 0 ≤ lCnt L p q t k * tagsOf t := Int.mul_nonneg g3 ht.1
  have y3 : (i + 1) * k ≤ lCnt L p q t k * k := Int.mul_le_mul_of_nonneg_right (by omega) (by omega)
  have y4 : (i + 1) * k = i * k + k := by rw [Int.add_mul, Int.one_mul]
  have y5 : 0 ≤ i * k := Int.mul_nonneg (by omega) (by omega)
  have hlw : legalB (latT L p q t k i) = true ∧ wideB (latW L p q t k i) = true := by
    cases hg : tagB t with
    | true =>
      have hu : unpackE (tagY L p q t k i) = 0 := by
        have hh := h
        simp only [latE, he, hi, hg, ne_eq, not_true_eq_false, if_false, if_true] at hh
        exact hh
      have hl : legalB (((tagY L p q t k i).toNat : Int) / 4) = true := by
        by_cases hl : legalB (((tagY L p q t k i).toNat : Int) / 4) = true
        · exact hl
        · simp [unpackE, hl] at hu
      have e3 : latT L p q t k i = ((tagY L p q t k i).toNat : Int) / 4 := by simp [latT, h, hg, unpackT, hl]
      have e4 : latW L p q t k i = 2 ^ ((tagY L p q t k i).toNat % 4) := by simp [latW, h, hg, unpackW, hl]
      rw [e3, e4]
      refine ⟨hl, ?_⟩
      have h4 : (tagY L p q t k i).toNat % 4 < 4 := Nat.mod_lt _ (by omega)
      generalize (tagY L p q t k i).toNat % 4 = m at h4
      have : m = 0 ∨ m = 1 ∨ m = 2 ∨ m = 3 := by omega
      rcases this with rfl | rfl | rfl | rfl <;> decide
    | false =>
      have hv : vecB t = true := by simpa [vectorB, hg] using gv
      have e3 : latT L p q t k i = elemOf t := by simp [latT, h, hg]
      have e4 : latW L p q t k i = k := by simp [latW, h, hg]
      rw [e3, e4]
      exact ⟨elem_legal2 hv, hk⟩
  unfold mayE
  have hin : insideB L.length (latP L p q t k i) (latQ L p q t k i) = true := by
    rw [e1, e2]
    simp only [insideB, Bool.and_eq_true, decide_eq_true_eq]
    omega
  rw [hlw.1, hlw.2, e2, hk]
  rw [e2] at hin
  simp [hin]
def ND (L : List (Lead × Int)) : Prop := (L.map (·.1)).Nodup
theorem vknown_none {L : List (Lead × Int)} {x : Lead} (h : vknown L x = none) : x ∉ L.map (·.1) := by
  intro hm
  obtain ⟨y, hy, rfl⟩ := List.mem_map.1 hm
  unfold vknown at h
  cases hf : L.find? (fun z => z.1 == y.1) with
  | none => have := List.find?_eq_none.1 hf y hy; simp at this
  | some z => rw [hf] at h; cases h
theorem ND.cons {L : List (Lead × Int)} (h : ND L) {x : Lead} {v : Int} (hx : x ∉ L.map (·.1)) : ND ((x, v) :: L) := by
  unfold ND; rw [List.map_cons, List.nodup_cons]; exact ⟨hx, h⟩
/-- The first height of a lead in a row of heights, or 0. -/
def firstH (R : List (Lead × Int)) (x : Lead) : Int := (vknown R x).getD 0
theorem vknown_of_mem {L : List (Lead × Int)} (hn : ND L) {x : Lead} {v : Int} (h : (x, v) ∈ L) : vknown L x = some v := by
  induction L with
  | nil => cases h
  | cons y L ih =>
    obtain ⟨y1, y2⟩ := y
    rw [vknown_cons]
    unfold ND at hn
    rw [List.map_cons, List.nodup_cons] at hn
    rcases List.mem_cons.1 h with h | h
    · cases h; simp
    · have : y1 ≠ x := by
        intro e; subst e
        exact hn.1 (List.mem_map.2 ⟨_, h, rfl⟩)
      rw [if_neg this]; exact ih hn.2 h
theorem ND.reverse {L : List (Lead × Int)} (hn : ND L) : ND L.reverse := by
  unfold ND at *
  rw [List.map_reverse]; exact List.pairwise_reverse.2 (hn.imp fun h => h.symm)
theorem vknown_reverse {L : List (Lead × Int)} (hn : ND L) (x : Lead) : vknown L.reverse x = vknown L x := by
  cases h : vknown L x with
  | some v => exact vknown_of_mem hn.reverse (List.mem_reverse.2 (vknown_mem h))
  | none =>
    cases h2 : vknown L.reverse x with
    | none => rfl
    | some v => exact absurd (List.mem_map.2 ⟨_, List.mem_reverse.1 (vknown_mem h2), rfl⟩) (vknown_none h)
/-- What a part adds: few, all keys or before the limit, nothing twice. -/
def Adds (lim c : Int) (S S' : VS) : Prop := ∃ N, S'.L = N ++ S.L ∧ (∀ t a k h, ((t, a, k), h) ∈ N → t = -1 ∨ beginsV t k a < lim) ∧ (N.length : Int) ≤ 2 * (S'.s - S.s) + c ∧ S.s ≤ S'.s ∧ (ND S.L → ND S'.L)
theorem Adds.refl (lim : Int) (S : VS) : Adds lim 0 S S := ⟨[], rfl, (fun _ _ _ _ h => by cases h), by simp, Int.le_refl _, id⟩
theorem Adds.same {lim : Int} {S S' : VS} (h : S'.L = S.L) (hs : S.s ≤ S'.s) : Adds lim 0 S S' := ⟨[], h, (fun _ _ _ _ h => by cases h), by simp; omega, hs, fun hn => h ▸ hn⟩
theorem Adds.trans {lim c d : Int} {S S1 S2 : VS} (h : Adds lim c S S1) (k : Adds lim d S1 S2) : Adds lim (c + d) S S2 := by
  obtain ⟨N, h1, h2, h3, h4, h5⟩ := h
  obtain ⟨M, k1, k2, k3, k4, k5⟩ := k
  refine ⟨M ++ N, by rw [k1, h1, List.append_assoc], fun t a k h hm => ?_, by rw [List.length_append]; push_cast; omega, by omega, fun hn => k5 (h5 hn)⟩
  rcases List.mem_append.1 hm with hm | hm
  · exact k2 _ _ _ _ hm
  · exact h2 _ _ _ _ hm
theorem Adds.weak {lim lim' c c' : Int} {S S' : VS} (h : Adds lim c S S') (hl : lim ≤ lim') (hc : c ≤ c') : Adds lim' c' S S' := by
  obtain ⟨N, h1, h2, h3, h4, h5⟩ := h
  exact ⟨N, h1, fun t a k x hm => by have := h2 t a k x hm; omega, by omega, h4, h5⟩
theorem keyM_s {D : List UInt8} {bud p q k a : Int} {S S' : VS} {s : List UInt8} (h : keyM D bud p q k a S = .ok (S', s)) : S.s ≤ S'.s := by
  unfold keyM at h
  split at h
  · cases h
  · split at h
    · cases h; exact Int.le_refl _
    · split at h
      · cases h
      · rename_i heq
        cases h
        rw [(stepM_ok heq).1]
        show S.s ≤ S.s + _
        omega
theorem keysLoop_s {D : List UInt8} {bud p q k : Int} {r : Nat} {i : Int} {last : List UInt8} {S S' : VS} {u : Unit} (h : keysLoop D bud p q k r i last S = .ok (S', u)) : S.s ≤ S'.s := by
  induction r generalizing i last S with
  | zero =>
    rw [keysLoop] at h
    simp only [Except.ok.injEq, Prod.mk.injEq] at h
    rw [← h.1]; exact Int.le_refl _
  | succ r ih =>
    rw [keysLoop, keysStep] at h
    split at h
    · cases h
    · rename_i h1
      split at h
      · cases h
      · rename_i h2
        split at h
        · cases h
        · rename_i h3
          split at h
          · cases h
          · have g := ih h
            have g3 := keyM_s h3
            rw [(targetM_ok h2).1, (stepM_ok h1).1] at g3
            have g4 : S.s + 1 ≤ _ := g3
            omega
theorem keysM_adds {D : List UInt8} {bud k f m lim : Int} {S S' : VS} {u : Unit} (h : keysM D bud k f m S = .ok (S', u)) : Adds lim 1 S S' := by
  unfold keysM at h
  split at h
  · cases h
  · rename_i h1
    obtain ⟨e1, e2, -, -, -, -⟩ := keysRefM_ok h1
    split at h
    · cases h
    · split at h
      · cases h
      · split at h
        · cases h; rw [e1]; exact (Adds.refl _ _).weak (Int.le_refl _) (by omega)
        · rename_i hk
          split at h
          · cases h
          · rename_i h2
            cases h
            have hs := keysLoop_s h2
            have hL := keysLoop_L h2
            rw [e1] at hs hL hk
            refine ⟨[_], by show _ :: _ = _; rw [hL]; rfl, fun t a k x hm => ?_, ?_, hs, fun hn => ?_⟩
            · rcases List.mem_cons.1 hm with hm | hm
              · cases hm; exact .inl rfl
              · cases hm
            · dsimp only [List.length]
              omega
            · show ND (_ :: _)
              rw [hL]
              exact hn.cons (vknown_none hk)
def LNew (look : LookF) (D : List UInt8) : Prop := ∀ p q t k lim deep S S' h, mayE D.length p q t k = 0 → look p q t k lim deep S = .ok (S', h) → Adds lim 0 S S'
theorem vecLoop_adds {look : LookF} {D : List UInt8} (hl : LNew look D) {p q t k a deep : Int} {r : Nat} {i high : Int} {S S' : VS} {h : Int}
    (he : vecLoop look D p q t k a deep r i high S = .ok (S', h)) : Adds (lFrom D p q t k) 0 S S' := by
  induction r generalizing i high S with
  | zero => unfold vecLoop at he; cases he; exact Adds.refl _ _
  | succ r ih =>
    unfold vecLoop at he
    split at he
    · cases he
    · rename_i h0
      split at he
      · cases he
      · rename_i h2
        have g := hl _ _ _ _ _ _ _ _ _ (lat_may2 (show latE D p q t k i = 0 by simpa using h0)).1 h2
        exact g.trans (ih he)
theorem vecM_adds {look : LookF} {D : List UInt8} (hl : LNew look D) {bud p q t k a deep : Int} {S S' : VS} {h : Int} (he : vecM look D bud p q t k a deep S = .ok (S', h)) :
    Adds (beginsV t k (p - loadV D p q)) 1 S S' := by
  unfold vecM at he
  split at he
  · cases he
  · rename_i h0
    have h0 : lfindE D p q t k = 0 := by simpa using h0
    rw [lfrom_begins h0]
    split at he
    · cases he
    · rename_i S1 u1 h1
      have hk1 : Adds (lFrom D p q t k) 1 S S1 := by
        split at h1
        · exact keysM_adds h1
        · cases h1; exact (Adds.refl _ _).weak (Int.le_refl _) (by omega)
      split at he
      · cases he
      · rename_i h2
        cases he
        exact hk1.trans (vecLoop_adds hl h2)
theorem partM_adds {look : LookF} {D : List UInt8} (hl : LNew look D) {bud p q t k a deep : Int} {S S' : VS} {h : Int} (he : partM look D bud p q t k a deep S = .ok (S', h)) :
    Adds (beginsV t k (p - loadV D p q)) 1 S S' := by
  unfold partM at he
  split at he
  · split at he
    · cases he
    · cases he; exact (Adds.refl _ _).weak (Int.le_refl _) (by omega)
  · split at he
    · split at he
      · cases he
      · rename_i h1
        cases he
        exact (Adds.same (keyM_L h1) (keyM_s h1)).weak (Int.le_refl _) (by omega)
    · split at he
      · split at he
        · cases he
        · cases he; exact (Adds.refl _ _).weak (Int.le_refl _) (by omega)
      · exact vecM_adds hl he
theorem lookM_new (D : List UInt8) (dp bud : Int) (f : Nat) : LNew (lookM D dp bud f) D := by
  induction f with
  | zero => intro p q t k lim deep S S' h _ he; unfold lookM at he; cases he
  | succ f ih =>
    intro p q t k lim deep S S' h hm he
    obtain ⟨m1, -⟩ := mayE_zero hm
    obtain ⟨t0, -⟩ := kindOf_in m1
    unfold lookM at he
    split at he
    · cases he
    · rename_i h1
      have e1 := (stepM_ok h1).1
      split at he
      · cases he
      · split at he
        · cases he; exact Adds.same (by rw [e1]) (by rw [e1]; show S.s ≤ S.s + 1; omega)
        · split at he
          · cases he
          · rename_i h2
            obtain ⟨e2, e3, e4⟩ := targetM_ok h2
            obtain ⟨g1, g2⟩ := tgtB_le e4
            subst e2; subst e3
            split at he
            · split at he
              · cases he
                exact Adds.same (by rw [e1]) (by rw [e1]; show S.s ≤ S.s + 1; omega)
              · cases he
            · rename_i h3
              split at he
              · cases he
              · rename_i h4
                cases he
                obtain ⟨N, k1, k2, k3, k4, k5⟩ := partM_adds ih h4
                rw [e1] at k1 k3 k4 k5 h3
                have hn : leadOf t (p - loadV D p q) k ∉ ((N ++ S.L).map (·.1)) := by
                  rw [List.map_append]
                  intro hm
                  rcases List.mem_append.1 hm with hm | hm
                  · obtain ⟨⟨⟨t', a', k'⟩, v⟩, hy, hz⟩ := List.mem_map.1 hm
                    unfold leadOf at hz
                    injection hz with z1 z2
                    injection z2 with z2 z3
                    subst z1; subst z2; subst z3
                    have := k2 _ _ _ _ hy
                    rw [beginsV_lead] at this
                    omega
                  · exact vknown_none h3 hm
                refine ⟨(leadOf t (p - loadV D p q) k, h) :: N, by show _ :: _ = _; rw [k1]; rfl, fun t' a' k' x hm => ?_, ?_, ?_, fun hnd => ?_⟩
                · rcases List.mem_cons.1 hm with hm | hm
                  · injection hm with hm _
                    unfold leadOf at hm
                    injection hm with z1 z2
                    injection z2 with z2 z3
                    subst z1; subst z2; subst z3
                    rw [beginsV_lead]; exact .inr g2
                  · have := k2 _ _ _ _ hm; omega
                · rw [List.length_cons]; push_cast; dsimp only at k3 k4 ⊢; omega
                · dsimp only at k4 ⊢; omega
                · show ND (_ :: _)
                  rw [k1]
                  refine ND.cons ?_ hn
                  rw [← k1]; exact k5 hnd
end Go.Proofs.Ytmpflnlajakibaa
