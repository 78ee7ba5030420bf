/- The law of the budget, plain. No program here. -/
import Derived.Test.YtmpflnlajakibaaA6
namespace Go.Proofs.Ytmpflnlajakibaa
set_option linter.unusedVariables false
set_option linter.unusedSimpArgs false
set_option linter.unusedSectionVars false
section
open Go.RowKit
theorem BA.bind {α β : Type} {s0 : Int} {F : Int → VR α} {G : Int → VS → α → VR β} (hF : BA s0 F) (hG : ∀ S v, s0 ≤ S.s → BA S.s (fun B => G B S v)) : BA s0 (fun B => vb (F B) (G B)) := by
  intro B hB
  simp only []
  obtain ⟨f1, f2⟩ := hF B hB
  cases hf : F B with
  | error x =>
    obtain ⟨s, a, e⟩ := x
    obtain ⟨k1, k2, k3, k4⟩ := f2 s a e hf
    refine ⟨fun S v h => by simp [vb, hf] at h, fun s' a' e' h => ?_⟩
    simp only [vb, hf, Except.error.injEq, Prod.mk.injEq] at h
    obtain ⟨rfl, rfl, rfl⟩ := h
    refine ⟨k1, k2, fun he => ?_, fun he B' hB' => ?_⟩
    · obtain ⟨j1, j2⟩ := k3 he
      refine ⟨fun B' h' => by simp [vb, j1 B' h'], fun B' h' h'' => ?_⟩
      obtain ⟨s', a', e1, e2, e3⟩ := j2 B' h' h''
      exact ⟨s', a', by simp [vb, e1], e2, e3⟩
    · rcases k4 he B' hB' with ⟨S, v, e1, e2⟩ | ⟨s', a', e', e1, e2⟩
      · obtain ⟨m1, m2⟩ := hF B' (by omega)
        obtain ⟨n1, n2, -, -⟩ := m1 S v e1
        obtain ⟨p1, p2⟩ := hG S v n1 B' n2
        simp only [vb, e1]
        cases hg : G B' S v with
        | ok y => obtain ⟨S2, v2⟩ := y; have := (p1 S2 v2 hg).1; exact .inl ⟨S2, v2, rfl, by omega⟩
        | error y => obtain ⟨s2, a2, e2'⟩ := y; have := (p2 s2 a2 e2' hg).1; exact .inr ⟨s2, a2, e2', rfl, by omega⟩
      · exact .inr ⟨s', a', e', by simp [vb, e1], e2⟩
  | ok y =>
    obtain ⟨S1, v1⟩ := y
    obtain ⟨k1, k2, k3, k4⟩ := f1 S1 v1 hf
    obtain ⟨g1, g2⟩ := hG S1 v1 k1 B k2
    have low : ∀ B', s0 ≤ B' → B' < S1.s → ∃ s a, vb (F B') (G B') = .error (s, a, 290) ∧ s0 ≤ s ∧ s ≤ B' := by
      intro B' h' h''
      obtain ⟨s, a, e1, e2, e3⟩ := k4 B' h' h''
      exact ⟨s, a, by simp [vb, e1], e2, e3⟩
    have high : ∀ B', S1.s ≤ B' → vb (F B') (G B') = G B' S1 v1 := fun B' h' => by simp [vb, k3 B' h']
    refine ⟨fun S v h => ?_, fun s a e h => ?_⟩
    · simp only [vb, hf] at h
      obtain ⟨q1, q2, q3, q4⟩ := g1 S v h
      refine ⟨by omega, q2, fun B' h' => by rw [high B' (by omega)]; exact q3 B' h', fun B' h' h'' => ?_⟩
      by_cases hc : B' < S1.s
      · exact low B' h' hc
      · rw [high B' (by omega)]
        obtain ⟨s, a, e1, e2, e3⟩ := q4 B' (by omega) h''
        exact ⟨s, a, e1, by omega, e3⟩
    · simp only [vb, hf] at h
      obtain ⟨q1, q2, q3, q4⟩ := g2 s a e h
      refine ⟨by omega, q2, fun he => ?_, fun he B' h' => ?_⟩
      · obtain ⟨r1, r2⟩ := q3 he
        refine ⟨fun B' h' => by rw [high B' (by omega)]; exact r1 B' h', fun B' h' h'' => ?_⟩
        by_cases hc : B' < S1.s
        · exact low B' h' hc
        · rw [high B' (by omega)]
          obtain ⟨s', a', e1, e2, e3⟩ := r2 B' (by omega) h''
          exact ⟨s', a', e1, by omega, e3⟩
      · rw [high B' (by omega)]
        exact q4 he B' h'
theorem BA.okC {α : Type} {S S2 : VS} {v : α} (hs : S2.s = S.s) : BA S.s (fun _ => .ok (S2, v)) := hs ▸ BA.ok
theorem mayE_ne {n p q t k : Int} : mayE n p q t k ≠ 290 := by unfold mayE; (repeat' split) <;> omega
theorem targetE_ne {L : List UInt8} {p q t k : Int} : targetE L p q t k ≠ 290 := by
  have := mayE_ne (n := L.length) (p := p) (q := q) (t := t) (k := k)
  unfold targetE; (repeat' split) <;> omega
theorem findE_ne {L : List UInt8} {p q t k : Int} {m : Bool} : findE L p q t k m ≠ 290 := by
  have := mayE_ne (n := L.length) (p := p) (q := q) (t := t) (k := k)
  have := targetE_ne (L := L) (p := p) (q := q) (t := t) (k := k)
  unfold findE keyE cntE; (repeat' split) <;> omega
theorem lfindE_ne {L : List UInt8} {p q t k : Int} : lfindE L p q t k ≠ 290 := by
  have := mayE_ne (n := L.length) (p := p) (q := q) (t := t) (k := k)
  have := targetE_ne (L := L) (p := p) (q := q) (t := t) (k := k)
  unfold lfindE; (repeat' split) <;> omega
theorem latE_ne {L : List UInt8} {p q t k i : Int} : latE L p q t k i ≠ 290 := by
  have := lfindE_ne (L := L) (p := p) (q := q) (t := t) (k := k)
  unfold latE unpackE; (repeat' split) <;> omega
theorem splaceE_ne {L : List UInt8} {p q t k : Int} : splaceE L p q t k ≠ 290 := by
  have := mayE_ne (n := L.length) (p := p) (q := q) (t := t) (k := k)
  have := targetE_ne (L := L) (p := p) (q := q) (t := t) (k := k)
  unfold splaceE; (repeat' split) <;> omega
section
variable {D : List UInt8} (hD : D.length ≤ 599)
include hD
theorem keyM_BA (p q k a : Int) (S : VS) : BA S.s (fun B => keyM D B p q k a S) := by
  unfold keyM
  by_cases h1 : findE D p q 4 k true = 0
  · by_cases h2 : a ∈ S.C
    · exact BA.congr (BA.ok (S := S) (v := findS D p q 4 k true)) (fun B => by simp [h1, h2])
    · refine BA.congr (BA.bind (BA.step (S := S) (m := (findS D p q 4 k true).length + 1) (a := p) (by omega) (by have := findS_le D p q 4 k true; omega))
        (G := fun _ S' _ => .ok ({ S' with C := a :: S'.C }, findS D p q 4 k true)) fun S' v _ => BA.okC rfl) (fun B => ?_)
      simp only [h1, h2, ne_eq, not_true_eq_false, if_false, vb]
      split <;> rename_i heq <;> simp only [heq]
  · exact BA.congr (BA.error (a := a) (e := findE D p q 4 k true) findE_ne) (fun B => by simp [h1])
omit hD in
theorem targetM_BA (p q t k lim : Int) (S : VS) : BA S.s (fun _ => targetM D p q t k lim S) := by
  unfold targetM
  split
  · exact BA.ok
  · exact BA.error (by omega)
omit hD in
theorem keysRefM_BA (k f : Int) (S : VS) : BA S.s (fun _ => keysRefM D k f S) := by
  unfold keysRefM
  split
  · exact BA.error (by omega)
  · split
    · exact BA.error (by omega)
    · exact targetM_BA _ _ _ _ _ _
theorem keysLoop_BA (p q k : Int) (r : Nat) (i : Int) (last : List UInt8) (S : VS) : BA S.s (fun B => keysLoop D B p q k r i last S) := by
  induction r generalizing i last S with
  | zero => exact BA.congr BA.ok (fun B => by rw [keysLoop])
  | succ r ih =>
    refine BA.congr (BA.bind (BA.step (S := S) (m := 1) (a := latP D p q 14 k i) (by omega) (by omega))
      (G := fun B S1 _ => vb (targetM D (latP D p q 14 k i) (latQ D p q 14 k i) (latT D p q 14 k i) (latW D p q 14 k i) (lFrom D p q 14 k) S1) fun S2 tg =>
        vb (keyM D B (latP D p q 14 k i) (latQ D p q 14 k i) (latW D p q 14 k i) tg S2) fun S3 s => if 0 < i ∧ lessB last s = false then .error (S3.s, latP D p q 14 k i, 215) else keysLoop D B p q k r (i + 1) s S3)
      fun S1 _ _ => BA.bind (targetM_BA _ _ _ _ _ _) fun S2 tg _ => BA.bind (keyM_BA hD _ _ _ _ _) fun S3 s _ => ?_) (fun B => ?_)
    · by_cases h : 0 < i ∧ lessB last s = false
      · simp only [if_pos h]; exact BA.error (by omega)
      · simp only [if_neg h]; exact ih _ _ _
    · rw [keysLoop, keysStep]
      simp only [vb]
      split <;> rename_i h1 <;> (try simp only [h1])
      split <;> rename_i h2 <;> (try simp only [h2])
      split <;> rename_i h3 <;> (try simp only [h3])
theorem keysM_BA (k f m : Int) (S : VS) : BA S.s (fun B => keysM D B k f m S) := by
  refine BA.congr (BA.bind (keysRefM_BA (D := D) k f S) (G := fun B S1 at_ => if lfindE D f k 14 (kwOf D k f) ≠ 0 then .error (S1.s, at_, lfindE D f k 14 (kwOf D k f))
    else if lCnt D f k 14 (kwOf D k f) ≠ m then .error (S1.s, at_, 214)
    else match vknown S1.L (-1, at_, kwOf D k f) with
      | some _ => .ok (S1, ())
      | none => vb (keysLoop D B f k (kwOf D k f) m.toNat 0 [] S1) fun S2 _ => .ok ({ S2 with L := ((-1, at_, kwOf D k f), 1) :: S2.L }, ())) fun S1 at_ _ => ?_) (fun B => ?_)
  · by_cases h1 : lfindE D f k 14 (kwOf D k f) = 0
    · by_cases h2 : lCnt D f k 14 (kwOf D k f) = m
      · simp only [h1, h2, ne_eq, not_true_eq_false, if_false]
        cases vknown S1.L (-1, at_, kwOf D k f) with
        | some x => exact BA.ok
        | none => exact BA.bind (keysLoop_BA hD _ _ _ _ _ _ _) fun S2 _ _ => BA.okC rfl
      · simp only [h1, h2, ne_eq, not_true_eq_false, not_false_eq_true, if_false, if_true]; exact BA.error (by omega)
    · simp only [h1, ne_eq, not_false_eq_true, if_true]; exact BA.error lfindE_ne
  · unfold keysM
    simp only [vb]
    split <;> rename_i h1 <;> (try simp only [h1])
    split
    · rfl
    · split
      · rfl
      · split <;> rename_i h2 <;> (try simp only [h2])
        split <;> rename_i h3 <;> (try simp only [h3])
theorem vecLoop_BA {look : Int → LookF} (hl : ∀ p q t k lim deep S, BA S.s (fun B => look B p q t k lim deep S)) (p q t k a deep : Int) (r : Nat) (i high : Int) (S : VS) : BA S.s (fun B => vecLoop (look B) D p q t k a deep r i high S) := by
  induction r generalizing i high S with
  | zero => exact BA.congr BA.ok (fun B => by rw [vecLoop])
  | succ r ih =>
    by_cases h1 : latE D p q t k i = 0
    · refine BA.congr (BA.bind (hl (latP D p q t k i) (latQ D p q t k i) (latT D p q t k i) (latW D p q t k i) (lFrom D p q t k) (deep + 1) S)
        (G := fun B S1 h => vecLoop (look B) D p q t k a deep r (i + 1) (max high h) S1) fun S1 h _ => ih _ _ _) (fun B => ?_)
      rw [vecLoop]
      simp only [h1, ne_eq, not_true_eq_false, if_false, vb]
      split <;> rename_i h2 <;> (try simp only [h2])
    · exact BA.congr (BA.error (a := a + lCnt D p q t k * k + i) (e := latE D p q t k i) latE_ne) (fun B => by rw [vecLoop]; simp [h1])
theorem vecM_BA {look : Int → LookF} (hl : ∀ p q t k lim deep S, BA S.s (fun B => look B p q t k lim deep S)) (p q t k a deep : Int) (S : VS) : BA S.s (fun B => vecM (look B) D B p q t k a deep S) := by
  by_cases h1 : lfindE D p q t k = 0
  · refine BA.congr (BA.bind (F := fun B => if t = 9 then keysM D B k (lFrom D p q t k) (lCnt D p q t k) S else .ok (S, ())) (s0 := S.s) ?_
      (G := fun B S1 _ => vb (vecLoop (look B) D p q t k a deep (lCnt D p q t k).toNat 0 0 S1) fun S2 h => .ok (S2, h + 1)) fun S1 _ _ => BA.bind (vecLoop_BA hD hl _ _ _ _ _ _ _ _ _ _) fun S2 h _ => BA.ok) (fun B => ?_)
    · by_cases h : t = 9
      · simp only [if_pos h]; exact keysM_BA hD _ _ _ _
      · simp only [if_neg h]; exact BA.ok
    · unfold vecM
      simp only [h1, ne_eq, not_true_eq_false, if_false, vb]
      split <;> rename_i h2 <;> (try simp only [h2])
      split <;> rename_i h3 <;> (try simp only [h3])
  · exact BA.congr (BA.error (a := a) (e := lfindE D p q t k) lfindE_ne) (fun B => by unfold vecM; simp [h1])
theorem partM_BA {look : Int → LookF} (hl : ∀ p q t k lim deep S, BA S.s (fun B => look B p q t k lim deep S)) (p q t k a deep : Int) (S : VS) : BA S.s (fun B => partM (look B) D B p q t k a deep S) := by
  unfold partM
  by_cases h1 : t = 6 ∨ t = 7
  · simp only [if_pos h1]
    split
    · exact BA.error splaceE_ne
    · exact BA.ok
  · by_cases h2 : t = 4
    · simp only [if_neg h1, if_pos h2]
      refine BA.congr (BA.bind (keyM_BA hD p q k a S) (G := fun _ S' _ => .ok (S', (1 : Int))) fun S' _ _ => BA.ok) (fun B => ?_)
      simp only [vb]
      split <;> rename_i h3 <;> (try simp only [h3])
    · by_cases h3 : t = 5 ∨ t = 25
      · simp only [if_neg h1, if_neg h2, if_pos h3]
        split
        · exact BA.error findE_ne
        · exact BA.ok
      · simp only [if_neg h1, if_neg h2, if_neg h3]
        exact vecM_BA hD hl _ _ _ _ _ _ _
theorem lookM_BA (dp : Int) (f : Nat) (p q t k lim deep : Int) (S : VS) : BA S.s (fun B => lookM D dp B f p q t k lim deep S) := by
  induction f generalizing p q t k lim deep S with
  | zero => unfold lookM; exact BA.error (by omega)
  | succ f ih =>
    refine BA.congr (BA.bind (BA.step (S := S) (m := 1) (a := p) (by omega) (by omega)) (G := fun B S1 _ => if dp < deep then .error (S1.s, p, 61) else if inlineB t then .ok (S1, 1)
      else vb (targetM D p q t k lim S1) fun S2 at_ => match vknown S2.L (leadOf t at_ k) with
          | some h => if deep + h - 1 ≤ dp then .ok (S2, h) else .error (S2.s, p, 61)
          | none => vb (partM (lookM D dp B f) D B p q t k at_ deep S2) fun S3 h => .ok ({ S3 with L := (leadOf t at_ k, h) :: S3.L }, h)) fun S1 _ _ => ?_) (fun B => ?_)
    · by_cases h1 : dp < deep
      · simp only [if_pos h1]; exact BA.error (by omega)
      · by_cases h2 : inlineB t = true
        · simp only [if_neg h1, if_pos h2]; exact BA.ok
        · simp only [if_neg h1, if_neg h2]
          refine BA.bind (targetM_BA _ _ _ _ _ _) fun S2 at_ _ => ?_
          cases hk : vknown S2.L (leadOf t at_ k) with
          | some h =>
            by_cases h3 : deep + h - 1 ≤ dp
            · simp only [if_pos h3]; exact BA.ok
            · simp only [if_neg h3]; exact BA.error (by omega)
          | none => exact BA.bind (partM_BA hD (look := fun B => lookM D dp B f) (fun p q t k lim deep S => ih p q t k lim deep S) _ _ _ _ _ _ _) fun S3 h _ => BA.okC rfl
    · rw [lookM]
      simp only [vb]
      split <;> rename_i h1 <;> (try simp only [h1])
      split
      · rfl
      · split
        · rfl
        · split <;> rename_i h2 <;> (try simp only [h2])
          split <;> rename_i h3 <;> (try simp only [h3])
          split <;> rename_i h4 <;> (try simp only [h4])
end
end
section
open Go.RowKit
theorem lkM_BA (D : List UInt8) (hn : D.length ≤ 599) (dp : Int) : BA 0 (lkM D dp) := lookM_BA hn dp _ _ _ _ _ _ _ ⟨0, [], []⟩
/-- The law of the budget. -/
theorem budget_law (D : List UInt8) (hn : D.length ≤ 599) (dp budget : Int) :
    0 ≤ (checkM D dp budget).1.1 ∧ (checkM D dp budget).1.1 ≤ max budget 0 ∧
    ((checkM D dp budget).2 = 290 → ((checkM D dp (max budget 0 + 600)).2 ≠ 290 ∧ (checkM D dp budget).1.1 ≤ (checkM D dp (max budget 0 + 600)).1.1) ∨
      ((checkM D dp (max budget 0 + 600)).2 = 290 ∧ (checkM D dp budget).1.1 < (checkM D dp (max budget 0 + 600)).1.1)) ∧
    ((checkM D dp budget).2 ≠ 290 → (∀ B, (checkM D dp budget).1.1 ≤ B → checkM D dp B = checkM D dp budget) ∧
      (0 < (checkM D dp budget).1.1 → (checkM D dp ((checkM D dp budget).1.1 - 1)).2 = 290 ∧ (checkM D dp ((checkM D dp budget).1.1 - 1)).1.1 < (checkM D dp budget).1.1)) := by
  by_cases hr : rootOf D = 0
  · have hB := lkM_BA D hn dp (max budget 0) (by omega)
    rw [checkM_good hr]
    cases hx : lkM D dp (max budget 0) with
    | ok y =>
      obtain ⟨S, v⟩ := y
      obtain ⟨h1, h2, h3, h4⟩ := hB.1 S v hx
      simp only [finM]
      refine ⟨h1, h2, fun h => by omega, fun _ => ⟨fun B hb => ?_, fun hp => ?_⟩⟩
      · rw [checkM_good hr, h3 (max B 0) (by omega)]; rfl
      · obtain ⟨s, a, e1, e2, e3⟩ := h4 (S.s - 1) (by omega) (by omega)
        rw [checkM_good hr, show max (S.s - 1) 0 = S.s - 1 by omega, e1]
        exact ⟨rfl, by show s < S.s; omega⟩
    | error y =>
      obtain ⟨s, a, e⟩ := y
      obtain ⟨h1, h2, h3, h4⟩ := hB.2 s a e hx
      simp only [finM]
      refine ⟨h1, h2, fun h => ?_, fun he => ⟨fun B hb => ?_, fun hp => ?_⟩⟩
      · rw [checkM_good hr, show max (max budget 0 + 600) 0 = max budget 0 + 600 by omega]
        rcases h4 h (max budget 0 + 600) (by omega) with ⟨S, v, e1, e2⟩ | ⟨s', a', e', e1, e2⟩
        · rw [e1]; left; exact ⟨by show (0 : Int) ≠ 290; omega, by show s ≤ S.s; omega⟩
        · rw [e1]
          by_cases h9 : e' = 290
          · right; exact ⟨h9, e2⟩
          · left; exact ⟨h9, by show s ≤ s'; omega⟩
      · rw [checkM_good hr, (h3 he).1 (max B 0) (by omega)]; rfl
      · obtain ⟨s', a', e1, e2, e3⟩ := (h3 he).2 (s - 1) (by omega) (by omega)
        rw [checkM_good hr, show max (s - 1) 0 = s - 1 by omega, e1]
        exact ⟨rfl, by show s' < s; omega⟩
  · have ho : rootOf D ≠ 290 := by have := rootE_or D.length (lastD D 1) (lastD D 2); unfold rootOf at *; omega
    simp only [checkM_bad hr]
    exact ⟨Int.le_refl _, by omega, fun h => absurd h ho, fun _ => ⟨fun _ _ => trivial, fun h => by omega⟩⟩
end
end Go.Proofs.Ytmpflnlajakibaa
