/- decode.walker's node, whole: by induction on the fuel. -/
import Derived.Test.YtmpflnlajakibaaCe
import Derived.Test.YtmpflnlajakibaaCf
import Derived.Test.YtmpflnlajakibaaCg
import Derived.Test.YtmpflnlajakibaaCi
import Derived.Test.YtmpflnlajakibaaCj
import Derived.Test.YtmpflnlajakibaaC3
namespace Go.Proofs.Ytmpflnlajakibaa
set_option linter.unusedVariables false
set_option linter.unusedSimpArgs false
set_option linter.unusedSectionVars false
open Go.RowKit
theorem vloopD_le {dec : DecF} {D : List UInt8} (hdg : ∀ p q t k lim d fu T f, 0 ≤ fu → dec p q t k lim d fu = .ok (T, f) → 0 ≤ f ∧ f ≤ fu) {p q t k a d : Int} : ∀ (r : Nat) (i : Int) (acc : List DT) (fu : Int) (l : List DT) (f : Int), 0 ≤ fu → vloopD dec D p q t k a d r i acc fu = .ok (l, f) → 0 ≤ f ∧ f ≤ fu
  | 0, i, acc, fu, l, f, h0, h => by rw [vloopD] at h; cases h; omega
  | r + 1, i, acc, fu, l, f, h0, h => by
    rw [vloopD] at h
    split at h
    · cases h
    · split at h
      · cases h
      · rename_i y fu' he
        have h1 := hdg _ _ _ _ _ _ _ _ _ h0 he
        have h2 := vloopD_le hdg r (i + 1) _ fu' l f h1.1 h
        omega
theorem bodyD_le {dec : DecF} {D : List UInt8} (hdg : ∀ p q t k lim d fu T f, 0 ≤ fu → dec p q t k lim d fu = .ok (T, f) → 0 ≤ f ∧ f ≤ fu) {p q t k a d fu : Int} {T : DT} {f : Int} (h0 : 0 ≤ fu) (h : bodyD dec D p q t k a d fu = .ok (T, f)) : 0 ≤ f ∧ f ≤ fu := by
  unfold bodyD at h
  split at h
  · cases h; omega
  · split at h
    · split at h
      · cases h
      · cases h; omega
    · split at h
      · split at h
        · cases h
        · cases h; omega
      · split at h
        · split at h
          · cases h
          · cases h; omega
        · unfold vecD at h
          split at h
          · cases h
          · split at h
            · cases h
            · split at h
              · cases h
              · rename_i he
                cases h
                exact vloopD_le hdg _ _ _ _ _ _ h0 he
theorem decN_le {D : List UInt8} {dp : Int} : ∀ (g : Nat) (p q t k lim d fu : Int) (T : DT) (f : Int), 0 ≤ fu → decN D dp g p q t k lim d fu = .ok (T, f) → 0 ≤ f ∧ f ≤ fu
  | 0, p, q, t, k, lim, d, fu, T, f, h0, h => by rw [decN] at h; cases h
  | g + 1, p, q, t, k, lim, d, fu, T, f, h0, h => by
    rw [decN] at h
    dsimp only at h
    split at h
    · cases h
    · split at h
      · cases h
      · split at h
        · cases h
        · have := bodyD_le (fun p q t k lim d fu T f h0 he => decN_le g p q t k lim d fu T f h0 he) (by omega) h
          omega
theorem bodyD_kind {dec : DecF} {D : List UInt8} {p q t k a d fu : Int} {kd nn u : Int} {s : List UInt8} {ks : List (List UInt8)} {l : List DT} {f : Int} (h : bodyD dec D p q t k a d fu = .ok (.mk kd nn u s ks l, f)) : kd = kindD t := by
  unfold bodyD at h
  split at h
  · cases h; rfl
  · split at h
    · split at h
      · cases h
      · cases h; rfl
    · split at h
      · split at h
        · cases h
        · cases h; rfl
      · split at h
        · split at h
          · cases h
          · cases h; rfl
        · unfold vecD at h
          split at h
          · cases h
          · split at h
            · cases h
            · split at h
              · cases h
              · cases h; rfl
section
variable {w : World} {lk b o n cap : Nat} {D : List UInt8} {dp fu a0 : Int}
theorem lf_post {a e nn u kd : Int} {s : List UInt8} {en : Ending} {w' : World} (h : LfPost w lk b o n cap D dp fu a0 a e nn u s en w') :
    VPost 76 0 w lk b o n cap D dp (if e ≠ 0 then .error (a, e) else .ok (.mk kd nn u s [] [], fu)) en w' := by
  obtain ⟨rfl, hd, ht⟩ := h
  by_cases he : e = 0
  · subst he
    rw [if_neg (by simp)]
    exact ⟨_, _, [], [], a, rfl, ⟨rfl, .inl ⟨rfl, rfl⟩⟩, ⟨rfl, .inl ⟨rfl, rfl⟩⟩, by rw [NReps]; exact ⟨rfl, rfl⟩, by simp [blkL, Value.ownBlock], by simp [blkL, Value.ownBlock], hd, ht⟩
  · rw [if_pos he]
    exact ⟨0, nn, u, ⟨s.toArray⟩, none, 0, 0, none, 0, 0, fu, rfl, he, hd, ht⟩
theorem dvec (F : Int) (dec : DecF) (hdg : DecGood F dec) (h : DSt 76 w lk b o n cap D dp fu a0 0) (hfu : InF F fu) (p q t k a d : Int) (ha0 : 0 ≤ a) (ha1 : a ≤ 1073741824) (hd0 : 0 ≤ d) (hd1 : d ≤ 2147483648)
    (HN : HypNode F 76 33 dec lk b o n cap D dp (lFrom D p q t k) (d + 1)) :
    Calls Try.prog 67 #[.pointer (some ⟨lk, 0, none⟩), plcV p q t k a d] w (VPost 76 0 w lk b o n cap D dp (vecD dec D p q t k a d fu)) := by
  by_cases he : lfindE D p q t k = 0
  · by_cases t9 : t = 9
    · cases hk : keysD D k (lFrom D p q 9 k) (lCnt D p q 9 k) with
      | error y => exact dvec_k F dec hdg h hfu p q t k a d ha0 ha1 hd0 hd1 HN he t9 y.1 y.2 hk _ rfl
      | ok ks => exact dvec_m F dec hdg h hfu p q t k a d ha0 ha1 hd0 hd1 HN he t9 ks hk _ rfl
    · exact dvec_n F dec hdg h hfu p q t k a d ha0 ha1 hd0 hd1 HN he t9 _ rfl
  · exact dvec_e F dec hdg h hfu p q t k a d ha0 ha1 hd0 hd1 HN he _ rfl
end
set_option maxHeartbeats 1000000 in
theorem dnode {lk b o n cap : Nat} {D : List UInt8} {dp : Int} : ∀ (g : Nat), g ≤ 1073741824 → ∀ (w : World) (fu a0 p q t k lim d : Int), DSt 76 w lk b o n cap D dp fu a0 0 → 0 ≤ fu → fu ≤ g → 0 ≤ d → d + g ≤ 2147483648 → mayE n p q t k = 0 →
    Calls Try.prog 33 #[.pointer (some ⟨lk, 0, none⟩), .agg #[.int .i64 p, .int .i64 q, .int .i64 t, .int .i64 k], .int .i64 lim, .int .i64 d] w (NPost 76 w lk b o n cap D dp (decN D dp g p q t k lim d fu)) := by
  intro g
  induction g with
  | zero =>
    intro _ w fu a0 p q t k lim d h h0 h1 _ _ _
    rw [decN]
    dsimp only
    exact dnode_a h p q t k lim d (by omega) trivial
  | succ g ih =>
    intro hg w fu a0 p q t k lim d h h0 h1 hd0 hd1 hm
    rw [decN]
    dsimp only
    by_cases hf : fu = 0
    · rw [if_pos hf]; exact dnode_a h p q t k lim d hf trivial
    rw [if_neg hf]
    by_cases hdp : dp < d
    · rw [if_pos hdp]; exact dnode_b h p q t k lim d hf hdp
    rw [if_neg hdp]
    obtain ⟨m1, m2, m3, m4, m5, m6, m7, m8, m9⟩ := mayE_zero hm
    obtain ⟨t0, t1⟩ := kindOf_in m1
    have hfu0 : 1 ≤ fu := by omega
    have hfu1 : fu ≤ 1073741824 := by omega
    have hn1 := h.doc.bd.1
    by_cases hin : inlineB t = true
    · have e1 : ¬ (inlineB t = false ∧ tgtB D p q t k lim = false) := by simp [hin]
      rw [if_neg e1, if_pos hin]
      have ht : t = 0 ∨ (t = 1 ∨ t = 26) ∨ t = 2 := by
        have h37 : ∀ t : Nat, t < 37 → inlineB t = true → t = 0 ∨ (t = 1 ∨ t = 26) ∨ t = 2 := by decide
        have := h37 t.toNat (by omega) (by rw [show ((t.toNat : Nat) : Int) = t by omega]; exact hin)
        omega
      have hKK := fun (kd' nn' u' : Int) (s' : List UInt8) (ks' : List (List UInt8)) (l' : List DT) (f' : Int) (he : bodyD (decN D dp g) D p q t k p d (fu - 1) = .ok (.mk kd' nn' u' s' ks' l', f')) => bodyD_kind he
      rcases ht with rfl | ht | rfl
      · refine dnode_null h p q 0 k lim d p hfu0 hfu1 hdp hm hin rfl rfl rfl _ hKK (fun W a' hW => ?_)
        refine (dnull hW p q 0 k p d).mono ?_
        rintro en w1 ⟨rfl, hd, hs⟩
        exact ⟨_, _, [], [], a', rfl, ⟨rfl, .inl ⟨rfl, rfl⟩⟩, ⟨rfl, .inl ⟨rfl, rfl⟩⟩, by rw [NReps]; exact ⟨rfl, rfl⟩, by simp [blkL, Value.ownBlock], by simp [blkL, Value.ownBlock], hd, hs⟩
      · have e0 : bodyD (decN D dp g) D p q t k p d (fu - 1) = if splaceE D p q t k ≠ 0 then .error (p, splaceE D p q t k) else .ok (.mk (kindD t) (intV D p q t k) 0 [] [] [], fu - 1) := by
          unfold bodyD; rw [if_neg (by omega), if_pos (by omega)]
        refine dnode_signed_i h p q t k lim d p hfu0 hfu1 hdp hm hin rfl (by rcases ht with rfl | rfl <;> rfl) (by rcases ht with rfl | rfl <;> rfl) _ hKK (fun W a' hW => ?_)
        rw [e0]
        exact (dsigned hW p q t k p d (by omega)).mono fun en w1 hp => lf_post hp
      · have e0 : bodyD (decN D dp g) D p q 2 k p d (fu - 1) = if splaceE D p q 2 k ≠ 0 then .error (p, splaceE D p q 2 k) else .ok (.mk (kindD 2) 0 (uintV D p q 2 k) [] [] [], fu - 1) := by
          unfold bodyD; rw [if_neg (by omega), if_neg (by omega), if_pos (by omega)]
        refine dnode_unsigned_i h p q 2 k lim d p hfu0 hfu1 hdp hm hin rfl rfl rfl _ hKK (fun W a' hW => ?_)
        rw [e0]
        exact (dunsigned hW p q 2 k p d (by omega)).mono fun en w1 hp => lf_post hp
    · have hin' : inlineB t = false := by simpa using hin
      by_cases htb : tgtB D p q t k lim = true
      rotate_left
      · rw [if_pos ⟨hin', by simpa using htb⟩]
        exact dnode_c h p q t k lim d hfu0 hfu1 hdp hm hin' htb
      rw [if_neg (by simp [htb]), if_neg hin]
      have hA : 0 ≤ p - loadV D p q ∧ p - loadV D p q ≤ 1073741824 := by
        have := tgtB_le' htb
        have := loadV_nonneg D p q
        omega
      obtain ⟨hA0, hA1⟩ := hA
      have hKK := fun (kd' nn' u' : Int) (s' : List UInt8) (ks' : List (List UInt8)) (l' : List DT) (f' : Int) (he : bodyD (decN D dp g) D p q t k (p - loadV D p q) d (fu - 1) = .ok (.mk kd' nn' u' s' ks' l', f')) => bodyD_kind he
      by_cases t6 : t = 6
      · subst t6
        have e0 : bodyD (decN D dp g) D p q 6 k (p - loadV D p q) d (fu - 1) = if splaceE D p q 6 k ≠ 0 then .error (p - loadV D p q, splaceE D p q 6 k) else .ok (.mk (kindD 6) (intV D p q 6 k) 0 [] [] [], fu - 1) := by
          unfold bodyD; rw [if_neg (by omega), if_pos (by omega)]
        refine dnode_signed_t h p q 6 k lim d _ hfu0 hfu1 hdp hm hin' htb rfl rfl rfl _ hKK (fun W a' hW => ?_)
        rw [e0]
        exact (dsigned hW p q 6 k (p - loadV D p q) d (by omega)).mono fun en w1 hp => lf_post hp
      by_cases t7 : t = 7
      · subst t7
        have e0 : bodyD (decN D dp g) D p q 7 k (p - loadV D p q) d (fu - 1) = if splaceE D p q 7 k ≠ 0 then .error (p - loadV D p q, splaceE D p q 7 k) else .ok (.mk (kindD 7) 0 (uintV D p q 7 k) [] [] [], fu - 1) := by
          unfold bodyD; rw [if_neg (by omega), if_neg (by omega), if_pos (by omega)]
        refine dnode_unsigned_t h p q 7 k lim d _ hfu0 hfu1 hdp hm hin' htb rfl rfl rfl _ hKK (fun W a' hW => ?_)
        rw [e0]
        exact (dunsigned hW p q 7 k (p - loadV D p q) d (by omega)).mono fun en w1 hp => lf_post hp
      by_cases t4 : t = 4 ∨ t = 5
      · have e0 : bodyD (decN D dp g) D p q t k (p - loadV D p q) d (fu - 1) = if findE D p q t k true ≠ 0 then .error (p - loadV D p q, findE D p q t k true) else .ok (.mk (kindD t) 0 0 (findS D p q t k true) [] [], fu - 1) := by
          unfold bodyD; rw [if_neg (by omega), if_neg (by omega), if_neg (by omega), if_pos (by omega)]
        refine dnode_text h p q t k lim d _ hfu0 hfu1 hdp hm hin' htb rfl (by rcases t4 with rfl | rfl <;> rfl) (by rcases t4 with rfl | rfl <;> rfl) _ hKK (fun W a' hW => ?_)
        rw [e0]
        exact (dtext hW p q t k (p - loadV D p q) d t4).mono fun en w1 hp => lf_post hp
      by_cases t25 : t = 25
      · subst t25
        have e0 : bodyD (decN D dp g) D p q 25 k (p - loadV D p q) d (fu - 1) = if findE D p q 25 k true ≠ 0 then .error (p - loadV D p q, findE D p q 25 k true) else .ok (.mk (kindD 25) 0 0 (findS D p q 25 k true) [] [], fu - 1) := by
          unfold bodyD; rw [if_neg (by omega), if_neg (by omega), if_neg (by omega), if_pos (by omega)]
        refine dnode_blob h p q 25 k lim d _ hfu0 hfu1 hdp hm hin' htb rfl rfl rfl _ hKK (fun W a' hW => ?_)
        rw [e0]
        exact (dblob hW p q k (p - loadV D p q) d).mono fun en w1 hp => lf_post hp
      have hni : t ≠ 0 ∧ t ≠ 1 ∧ t ≠ 26 ∧ t ≠ 2 := by
        refine ⟨?_, ?_, ?_, ?_⟩ <;> (rintro rfl; revert hin; decide)
      obtain ⟨i0, i1, i26, i2⟩ := hni
      have hdr : drFn t = .nilFunc ∧ drIs t = false := by
        constructor
        · unfold drFn; simp [i0, i1, i26, i2, t6, t7, t25, not_or.1 t4]
        · unfold drIs; simp [i0, i1, i26, i2, t6, t7, t25, not_or.1 t4]
      refine dnode_vector h p q t k lim d _ hfu0 hfu1 hdp hm hin' htb rfl hdr.1 hdr.2 _ hKK (fun W a' hW => ?_)
      have e0 : bodyD (decN D dp g) D p q t k (p - loadV D p q) d (fu - 1) = vecD (decN D dp g) D p q t k (p - loadV D p q) d (fu - 1) := by
        unfold bodyD; rw [if_neg (by omega), if_neg (by omega), if_neg (by omega), if_neg (by omega)]
      rw [e0]
      refine dvec g (decN D dp g) (fun p q t k lim d fu T f hf he => ?_) hW ⟨by omega, by omega⟩ p q t k (p - loadV D p q) d hA0 hA1 hd0 (by omega) ?_
      · have := decN_le g p q t k lim d fu T f hf.1 he
        have := hf.2
        exact ⟨by omega, by omega⟩
      · intro W' fu' a'' p' q' t' k' hW' hf' hm'
        exact ih (by omega) W' fu' a'' p' q' t' k' _ (d + 1) hW' hf'.1 hf'.2 (by omega) (by omega) hm'
end Go.Proofs.Ytmpflnlajakibaa
