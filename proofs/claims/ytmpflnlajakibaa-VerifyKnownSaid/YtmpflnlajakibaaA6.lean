/- The plain model of verify: no program here. Facts of the plain model of verify: heights are bounded. No program here. The plain model of verify and the budget. No program here. The plain model of verify and the maximal depth. No program here. The laws of the plain model of verify: budget and depth. No program here. -/
import Derived.Test.YtmpflnlajakibaaAa
import Derived.Test.YtmpflnlajakibaaA5
import Derived.Test.YtmpflnlajakibaaWalk7
namespace Go.Proofs.Ytmpflnlajakibaa
set_option linter.unusedVariables false
set_option linter.unusedSimpArgs false
set_option linter.unusedSectionVars false
section
open Go.RowKit
/-- What target finds: the backward offset is in bounds, and the data starts before the limit. -/
def tgtB (L : List UInt8) (p q t k lim : Int) : Bool := decide (loadV L p q ≤ p) && decide (beginsV t k (p - loadV L p q) < lim)
abbrev Lead := Int × Int × Int
/-- The state of the check: steps, the data checked with its height, the keys counted. -/
structure VS where
  s : Int
  L : List (Lead × Int)
  C : List Int
/-- A result: a failure (steps, offset, error), or the state and a value. -/
abbrev VR (α : Type) := Except (Int × Int × Int) (VS × α)
def vknown (L : List (Lead × Int)) (x : Lead) : Option Int := (L.find? (fun y => y.1 == x)).map (·.2)
def stepM (bud m a : Int) (S : VS) : VR Unit := if S.s + m ≤ bud then .ok ({ S with s := S.s + m }, ()) else .error (S.s, a, 290)
def targetM (D : List UInt8) (p q t k lim : Int) (S : VS) : VR Int := if tgtB D p q t k lim then .ok (S, p - loadV D p q) else .error (S.s, p, 211)
def lessB : List UInt8 → List UInt8 → Bool
  | _, [] => false
  | [], _ :: _ => true
  | a :: l, b :: r => if a = b then lessB l r else decide (a.toNat < b.toNat)
def keyM (D : List UInt8) (bud p q k at_ : Int) (S : VS) : VR (List UInt8) :=
  if findE D p q 4 k true ≠ 0 then .error (S.s, at_, findE D p q 4 k true)
  else if at_ ∈ S.C then .ok (S, findS D p q 4 k true)
  else match stepM bud ((findS D p q 4 k true).length + 1) p S with
    | .error x => .error x
    | .ok (S', _) => .ok ({ S' with C := at_ :: S'.C }, findS D p q 4 k true)
/-- The width of the keys, the target of the reference to the keys. -/
def kwOf (D : List UInt8) (k from_ : Int) : Int := min (loadV D (from_ + k) k) 9
def keysRefM (D : List UInt8) (k from_ : Int) (S : VS) : VR Int :=
  if from_ < loadV D from_ k then .error (S.s, from_, 211)
  else if wideB (kwOf D k from_) = false then .error (S.s, from_ + k, 212)
  else targetM D from_ k 14 (kwOf D k from_) from_ S
/-- The key i of a map, then what comes after it. -/
def keysStep (D : List UInt8) (bud p q k : Int) (next : Int → List UInt8 → VS → VR Unit) (i : Int) (last : List UInt8) (S : VS) : VR Unit :=
  match stepM bud 1 (latP D p q 14 k i) S with
  | .error x => .error x
  | .ok (S1, _) => match targetM D (latP D p q 14 k i) (latQ D p q 14 k i) (latT D p q 14 k i) (latW D p q 14 k i) (lFrom D p q 14 k) S1 with
    | .error x => .error x
    | .ok (S2, tg) => match keyM D bud (latP D p q 14 k i) (latQ D p q 14 k i) (latW D p q 14 k i) tg S2 with
      | .error x => .error x
      | .ok (S3, s) => if 0 < i ∧ lessB last s = false then .error (S3.s, latP D p q 14 k i, 215) else next (i + 1) s S3
/-- The keys i, i + 1, .. of a map. -/
def keysLoop (D : List UInt8) (bud p q k : Int) : Nat → Int → List UInt8 → VS → VR Unit
  | 0 => fun _ _ S => .ok (S, ())
  | r + 1 => keysStep D bud p q k (keysLoop D bud p q k r)
def keysM (D : List UInt8) (bud k from_ many : Int) (S : VS) : VR Unit :=
  match keysRefM D k from_ S with
  | .error x => .error x
  | .ok (S1, at_) =>
    if lfindE D from_ k 14 (kwOf D k from_) ≠ 0 then .error (S1.s, at_, lfindE D from_ k 14 (kwOf D k from_))
    else if lCnt D from_ k 14 (kwOf D k from_) ≠ many then .error (S1.s, at_, 214)
    else match vknown S1.L (-1, at_, kwOf D k from_) with
      | some _ => .ok (S1, ())
      | none => match keysLoop D bud from_ k (kwOf D k from_) many.toNat 0 [] S1 with
        | .error x => .error x
        | .ok (S2, _) => .ok ({ S2 with L := ((-1, at_, kwOf D k from_), 1) :: S2.L }, ())
/-- The check of a reference: position, parent's width, type, width, limit, depth. -/
abbrev LookF := Int → Int → Int → Int → Int → Int → VS → VR Int
/-- The elements i, i + 1, .. of a vector. -/
def vecLoop (look : LookF) (D : List UInt8) (p q t k at_ deep : Int) : Nat → Int → Int → VS → VR Int
  | 0, _, high, S => .ok (S, high)
  | r + 1, i, high, S =>
    if latE D p q t k i ≠ 0 then .error (S.s, at_ + lCnt D p q t k * k + i, latE D p q t k i)
    else match look (latP D p q t k i) (latQ D p q t k i) (latT D p q t k i) (latW D p q t k i) (lFrom D p q t k) (deep + 1) S with
      | .error x => .error x
      | .ok (S1, h) => vecLoop look D p q t k at_ deep r (i + 1) (max high h) S1
def vecM (look : LookF) (D : List UInt8) (bud p q t k at_ deep : Int) (S : VS) : VR Int :=
  if lfindE D p q t k ≠ 0 then .error (S.s, at_, lfindE D p q t k)
  else match (if t = 9 then keysM D bud k (lFrom D p q t k) (lCnt D p q t k) S else .ok (S, ())) with
    | .error x => .error x
    | .ok (S1, _) => match vecLoop look D p q t k at_ deep (lCnt D p q t k).toNat 0 0 S1 with
      | .error x => .error x
      | .ok (S2, h) => .ok (S2, h + 1)
def partM (look : LookF) (D : List UInt8) (bud p q t k at_ deep : Int) (S : VS) : VR Int :=
  if t = 6 ∨ t = 7 then (if splaceE D p q t k ≠ 0 then .error (S.s, at_, splaceE D p q t k) else .ok (S, 1))
  else if t = 4 then (match keyM D bud p q k at_ S with | .error x => .error x | .ok (S', _) => .ok (S', 1))
  else if t = 5 ∨ t = 25 then (if findE D p q t k true ≠ 0 then .error (S.s, at_, findE D p q t k true) else .ok (S, 1))
  else vecM look D bud p q t k at_ deep S
def leadOf (t a k : Int) : Lead := (t, a, if t = 4 then 0 else k)
def lookM (D : List UInt8) (dp bud : Int) : Nat → LookF
  | 0 => fun _ _ _ _ _ _ S => .error (S.s, 0, -1)
  | f + 1 => fun p q t k lim deep S => match stepM bud 1 p S with
    | .error x => .error x
    | .ok (S1, _) => if dp < deep then .error (S1.s, p, 61) else if inlineB t then .ok (S1, 1)
      else match targetM D p q t k lim S1 with
        | .error x => .error x
        | .ok (S2, at_) => match vknown S2.L (leadOf t at_ k) with
          | some h => if deep + h - 1 ≤ dp then .ok (S2, h) else .error (S2.s, p, 61)
          | none => match partM (lookM D dp bud f) D bud p q t k at_ deep S2 with
            | .error x => .error x
            | .ok (S3, h) => .ok ({ S3 with L := (leadOf t at_ k, h) :: S3.L }, h)
def lastD (D : List UInt8) (i : Nat) : UInt8 := D.getD (D.length - i) 0
/-- The report (steps, offset, height) and the error. -/
def checkM (D : List UInt8) (dp budget : Int) : (Int × Int × Int) × Int :=
  if rootE D.length (lastD D 1) (lastD D 2) = 20 then ((0, D.length - 2, 0), 20)
  else if rootE D.length (lastD D 1) (lastD D 2) ≠ 0 then ((0, 0, 0), rootE D.length (lastD D 1) (lastD D 2))
  else match lookM D dp (max budget 0) (D.length + 1) (rootP D.length (lastD D 1) (lastD D 2)) (rootQ D.length (lastD D 1) (lastD D 2)) (rootT D.length (lastD D 1) (lastD D 2)) (rootW D.length (lastD D 1) (lastD D 2)) (rootP D.length (lastD D 1) (lastD D 2)) 1 ⟨0, [], []⟩ with
    | .error (s, a, e) => ((s, a, 0), e)
    | .ok (S, h) => ((S.s, 0, h), 0)
end
section
open Go.RowKit
/-- Heights are positive, and bounded by the start of the data. -/
def KInv (L : List (Lead × Int)) : Prop := ∀ t a k h, ((t, a, k), h) ∈ L → 1 ≤ h ∧ h ≤ beginsV t k a + 30
theorem vknown_mem {L : List (Lead × Int)} {x : Lead} {h : Int} (hk : vknown L x = some h) : (x, h) ∈ L := by
  unfold vknown at hk
  cases hf : L.find? (fun y => y.1 == x) with
  | none => rw [hf] at hk; cases hk
  | some y =>
    rw [hf] at hk
    have h1 := List.find?_some hf
    have h2 := List.mem_of_find?_eq_some hf
    simp only [Option.map_some, Option.some.injEq] at hk
    have h3 : y.1 = x := by simpa using h1
    rw [← h3, ← hk]; exact h2
theorem vknown_cons (L : List (Lead × Int)) (x y : Lead) (h : Int) : vknown ((x, h) :: L) y = if x = y then some h else vknown L y := by
  unfold vknown
  rw [List.find?_cons]
  by_cases e : x = y
  · subst e; simp
  · have : (x == y) = false := by simpa using e
    simp [this, e]
theorem stepM_ok {bud m a : Int} {S S' : VS} {u : Unit} (h : stepM bud m a S = .ok (S', u)) : S' = { S with s := S.s + m } ∧ S.s + m ≤ bud := by
  unfold stepM at h
  split at h
  · cases h; exact ⟨rfl, by assumption⟩
  · cases h
theorem targetM_ok {D : List UInt8} {p q t k lim x : Int} {S S' : VS} (h : targetM D p q t k lim S = .ok (S', x)) : S' = S ∧ x = p - loadV D p q ∧ tgtB D p q t k lim = true := by
  unfold targetM at h
  split at h
  · cases h; exact ⟨rfl, rfl, by assumption⟩
  · cases h
theorem keyM_L {D : List UInt8} {bud p q k a : Int} {S S' : VS} {s : List UInt8} (h : keyM D bud p q k a S = .ok (S', s)) : S'.L = S.L := by
  unfold keyM at h
  split at h
  · cases h
  · split at h
    · cases h; rfl
    · split at h
      · cases h
      · rename_i heq
        cases h
        rw [(stepM_ok heq).1]
theorem keysLoop_L {D : List UInt8} {bud p q k : Int} {r : Nat} {i : Int} {last : List UInt8} {S S' : VS} {u : Unit} (h : keysLoop D bud p q k r i last S = .ok (S', u)) : S'.L = S.L := by
  induction r generalizing i last S with
  | zero =>
    rw [keysLoop] at h
    simp only [Except.ok.injEq, Prod.mk.injEq] at h
    rw [← h.1]
  | succ r ih =>
    rw [keysLoop, keysStep] at h
    split at h
    · cases h
    · rename_i h1
      split at h
      · cases h
      · rename_i h2
        split at h
        · cases h
        · rename_i h3
          split at h
          · cases h
          · rw [ih h, keyM_L h3, (targetM_ok h2).1, (stepM_ok h1).1]
theorem beginsV_lead (t k a : Int) : beginsV t (if t = 4 then 0 else k) a = beginsV t k a := by
  by_cases h : t = 4
  · subst h; simp [beginsV, show vecB 4 = false from rfl]
  · rw [if_neg h]
theorem KInv.cons {L : List (Lead × Int)} (h : KInv L) {t a k x : Int} (h1 : 1 ≤ x) (h2 : x ≤ beginsV t k a + 30) : KInv (((t, a, k), x) :: L) := by
  intro t' a' k' x' hm
  rcases List.mem_cons.1 hm with e | hm
  · cases e; exact ⟨h1, h2⟩
  · exact h _ _ _ _ hm
theorem keysRefM_ok {D : List UInt8} {k f x : Int} {S S' : VS} (h : keysRefM D k f S = .ok (S', x)) : S' = S ∧ 0 ≤ x ∧ x = f - loadV D f k ∧ loadV D f k ≤ f ∧ wideB (kwOf D k f) = true ∧ tgtB D f k 14 (kwOf D k f) f = true := by
  unfold keysRefM at h
  split at h
  · cases h
  · split at h
    · cases h
    · rename_i h0 h1
      obtain ⟨e1, e2, e3⟩ := targetM_ok h
      exact ⟨e1, by omega, e2, by omega, by simpa using h1, e3⟩
theorem keysM_inv {D : List UInt8} {bud k f m : Int} {S S' : VS} {u : Unit} (hk : KInv S.L) (h : keysM D bud k f m S = .ok (S', u)) : KInv S'.L := by
  unfold keysM at h
  split at h
  · cases h
  · rename_i h1
    obtain ⟨e1, e2, -, -, -, -⟩ := keysRefM_ok h1
    split at h
    · cases h
    · split at h
      · cases h
      · split at h
        · cases h; rw [e1]; exact hk
        · split at h
          · cases h
          · rename_i h2
            cases h
            refine KInv.cons ?_ (by omega) ?_
            · rw [keysLoop_L h2, e1]; exact hk
            · have : beginsV (-1) (kwOf D k f) ‹Int› = ‹Int› := by simp [beginsV, show vecB (-1) = false from rfl]
              omega
def LGood (look : LookF) : Prop := ∀ p q t k lim deep S S' h, 0 ≤ lim → k ≤ 8 → KInv S.L → look p q t k lim deep S = .ok (S', h) → KInv S'.L ∧ 1 ≤ h ∧ h ≤ lim + 29
theorem latW_le {L : List UInt8} {p q t k i : Int} (h : k ≤ 8) : latW L p q t k i ≤ 8 := by
  unfold latW unpackW
  split
  · split
    · split
      · have : (tagY L p q t k i).toNat % 4 < 4 := Nat.mod_lt _ (by omega)
        have h3 : (tagY L p q t k i).toNat % 4 ≤ 3 := by omega
        calc (2 : Int) ^ ((tagY L p q t k i).toNat % 4) = ((2 ^ ((tagY L p q t k i).toNat % 4) : Nat) : Int) := by push_cast; rfl
          _ ≤ ((2 ^ 3 : Nat) : Int) := Int.ofNat_le.2 (Nat.pow_le_pow_right (by omega) h3)
          _ = 8 := by decide
      · omega
    · omega
  · omega
theorem lFrom_nonneg (L : List UInt8) (p q t k : Int) : 0 ≤ lFrom L p q t k := by
  by_cases h : lfindE L p q t k = 0
  · exact (lfindE_zero h).2.2.1
  · simp [lFrom, h]
theorem vecLoop_inv {look : LookF} (hl : LGood look) {D : List UInt8} {p q t k a deep : Int} {r : Nat} {i high : Int} {S S' : VS} {h : Int} (hk8 : k ≤ 8) (hk : KInv S.L) (h0 : 0 ≤ high) (h1 : high ≤ lFrom D p q t k + 29)
    (he : vecLoop look D p q t k a deep r i high S = .ok (S', h)) : KInv S'.L ∧ 0 ≤ h ∧ h ≤ lFrom D p q t k + 29 := by
  induction r generalizing i high S with
  | zero => unfold vecLoop at he; cases he; exact ⟨hk, h0, h1⟩
  | succ r ih =>
    unfold vecLoop at he
    split at he
    · cases he
    · split at he
      · cases he
      · rename_i h2
        obtain ⟨g1, g2, g3⟩ := hl _ _ _ _ _ _ _ _ _ (lFrom_nonneg _ _ _ _ _) (latW_le hk8) hk h2
        exact ih g1 (by omega) (by omega) he
theorem lfrom_begins {D : List UInt8} {p q t k : Int} (h : lfindE D p q t k = 0) : beginsV t k (p - loadV D p q) = lFrom D p q t k := by
  obtain ⟨h1, h2, -, h4, -, -, -, -, -, -, h5⟩ := lfindE_zero h
  rw [h5, h4]
  have ev : targetV D p q t k = p - loadV D p q := by simp [targetV, h1]
  rw [ev]
  have hb := manyOf_bd t
  unfold vectorB tagB at h2
  unfold beginsV aheadOf
  by_cases t9 : t = 9
  · subst t9; simp
  · by_cases t10 : t = 10
    · subst t10; simp
    · have e9 : (t == 9) = false := by simpa using t9
      have e10 : (t == 10) = false := by simpa using t10
      simp only [e9, e10, Bool.or_false, Bool.false_or] at h2
      have e5 : (t == 5) = false := by
        cases hh : (t == 5) with
        | false => rfl
        | true => have : t = 5 := by simpa using hh
                  subst this; revert h2; decide
      have e25 : (t == 25) = false := by
        cases hh : (t == 25) with
        | false => rfl
        | true => have : t = 25 := by simpa using hh
                  subst this; revert h2; decide
      simp only [e9, e10, e5, e25, h2, Bool.false_or, Bool.true_and, Bool.false_eq_true, if_false, if_true]
      by_cases hm : manyOf t = 0
      · simp [hm]
      · have : 0 < manyOf t := by omega
        simp [hm, this]
theorem vecM_inv {look : LookF} (hl : LGood look) {D : List UInt8} {bud p q t k a deep : Int} {S S' : VS} {h : Int} (hk8 : k ≤ 8) (hk : KInv S.L) (he : vecM look D bud p q t k a deep S = .ok (S', h)) :
    KInv S'.L ∧ 1 ≤ h ∧ h ≤ beginsV t k (p - loadV D p q) + 30 := by
  unfold vecM at he
  split at he
  · cases he
  · rename_i h0
    have h0 : lfindE D p q t k = 0 := by simpa using h0
    split at he
    · cases he
    · rename_i S1 u1 h1
      have hk1 : KInv S1.L := by
        split at h1
        · exact keysM_inv hk h1
        · cases h1; exact hk
      split at he
      · cases he
      · rename_i h2
        cases he
        have hf := lFrom_nonneg D p q t k
        obtain ⟨g1, g2, g3⟩ := vecLoop_inv hl hk8 hk1 (by omega) (by omega) h2
        rw [lfrom_begins h0]
        exact ⟨g1, by omega, by omega⟩
theorem partM_inv {look : LookF} (hl : LGood look) {D : List UInt8} {bud p q t k a deep : Int} {S S' : VS} {h : Int} (hk8 : k ≤ 8) (h0 : loadV D p q ≤ p) (hk : KInv S.L) (he : partM look D bud p q t k a deep S = .ok (S', h)) :
    KInv S'.L ∧ 1 ≤ h ∧ h ≤ beginsV t k (p - loadV D p q) + 30 := by
  have hb : t ≠ 9 → (1 : Int) ≤ beginsV t k (p - loadV D p q) + 30 := by
    intro t9
    have e9 : (t == 9) = false := by simpa using t9
    unfold beginsV
    simp only [e9, Bool.false_eq_true, if_false]
    split <;> omega
  unfold partM at he
  split at he
  · split at he
    · cases he
    · cases he; exact ⟨hk, by omega, hb (by omega)⟩
  · split at he
    · split at he
      · cases he
      · rename_i h1
        cases he
        rw [keyM_L h1]
        exact ⟨hk, by omega, hb (by omega)⟩
    · split at he
      · split at he
        · cases he
        · cases he; exact ⟨hk, by omega, hb (by omega)⟩
      · exact vecM_inv hl hk8 hk he
theorem tgtB_le {D : List UInt8} {p q t k lim : Int} (h : tgtB D p q t k lim = true) : loadV D p q ≤ p ∧ beginsV t k (p - loadV D p q) < lim := by
  simpa [tgtB] using h
theorem lookM_inv (D : List UInt8) (dp bud : Int) (f : Nat) : LGood (lookM D dp bud f) := by
  induction f with
  | zero => intro p q t k lim deep S S' h _ _ _ he; unfold lookM at he; cases he
  | succ f ih =>
    intro p q t k lim deep S S' h hlim hk8 hk he
    unfold lookM at he
    split at he
    · cases he
    · rename_i h1
      have e1 := (stepM_ok h1).1
      split at he
      · cases he
      · split at he
        · cases he; rw [e1]; exact ⟨hk, by omega, by omega⟩
        · split at he
          · cases he
          · rename_i h2
            obtain ⟨e2, e3, e4⟩ := targetM_ok h2
            obtain ⟨g1, g2⟩ := tgtB_le e4
            subst e2; subst e3
            split at he
            · rename_i h3
              split at he
              · cases he
                have := vknown_mem h3
                rw [e1] at this ⊢
                obtain ⟨k1, k2⟩ := hk _ _ _ _ this
                rw [beginsV_lead] at k2
                exact ⟨hk, k1, by omega⟩
              · cases he
            · split at he
              · cases he
              · rename_i h4
                cases he
                obtain ⟨k0, k1, k2⟩ := partM_inv ih hk8 g1 (by rw [e1]; exact hk) h4
                refine ⟨KInv.cons k0 k1 ?_, k1, by omega⟩
                rw [beginsV_lead]; exact k2
end
section
open Go.RowKit
def vb {α β : Type} (r : VR α) (g : VS → α → VR β) : VR β := match r with
  | .error x => .error x
  | .ok (S, v) => g S v
/-- The law of a check under a budget, from s0 steps on. -/
def BA {α : Type} (s0 : Int) (F : Int → VR α) : Prop := ∀ B, s0 ≤ B →
  (∀ S v, F B = .ok (S, v) → s0 ≤ S.s ∧ S.s ≤ B ∧ (∀ B', S.s ≤ B' → F B' = .ok (S, v)) ∧ (∀ B', s0 ≤ B' → B' < S.s → ∃ s a, F B' = .error (s, a, 290) ∧ s0 ≤ s ∧ s ≤ B')) ∧
  (∀ s a e, F B = .error (s, a, e) → s0 ≤ s ∧ s ≤ B ∧
    (e ≠ 290 → (∀ B', s ≤ B' → F B' = .error (s, a, e)) ∧ (∀ B', s0 ≤ B' → B' < s → ∃ s' a', F B' = .error (s', a', 290) ∧ s0 ≤ s' ∧ s' ≤ B')) ∧
    (e = 290 → ∀ B', B + 600 ≤ B' → (∃ S v, F B' = .ok (S, v) ∧ s < S.s) ∨ ∃ s' a' e', F B' = .error (s', a', e') ∧ s < s'))
theorem BA.ok {α : Type} {S : VS} {v : α} : BA S.s (fun _ => .ok (S, v)) := by
  intro B hB
  refine ⟨fun S' v' h => ?_, fun s a e h => by simp at h⟩
  simp only [Except.ok.injEq, Prod.mk.injEq] at h
  obtain ⟨rfl, rfl⟩ := h
  exact ⟨Int.le_refl _, hB, fun _ _ => rfl, fun B' h' h'' => by omega⟩
theorem BA.error {α : Type} {s a e : Int} (he : e ≠ 290) : BA (α := α) s (fun _ => .error (s, a, e)) := by
  intro B hB
  refine ⟨fun S' v' h => by simp at h, fun s' a' e' h => ?_⟩
  simp only [Except.error.injEq, Prod.mk.injEq] at h
  obtain ⟨rfl, rfl, rfl⟩ := h
  exact ⟨Int.le_refl _, hB, fun _ => ⟨fun _ _ => rfl, fun B' h' h'' => by omega⟩, fun h' => absurd h' he⟩
theorem BA.step {S : VS} {m a : Int} (h1 : 0 < m) (h2 : m ≤ 600) : BA S.s (fun B => stepM B m a S) := by
  intro B hB
  simp only [stepM]
  refine ⟨fun S' v' h => ?_, fun s' a' e' h => ?_⟩
  · split at h
    · cases h
      exact ⟨by show S.s ≤ S.s + m; omega, by assumption, fun B' h' => by rw [if_pos h'], fun B' h' h'' => ⟨S.s, a, by rw [if_neg (by have : B' < S.s + m := h''; omega)], by omega, h'⟩⟩
    · cases h
  · split at h
    · cases h
    · simp only [Except.error.injEq, Prod.mk.injEq] at h
      obtain ⟨rfl, rfl, rfl⟩ := h
      refine ⟨Int.le_refl _, hB, fun h' => absurd rfl h', fun _ B' h' => .inl ⟨{ S with s := S.s + m }, (), by rw [if_pos (by omega)], by show S.s < S.s + m; omega⟩⟩
theorem BA.congr {α : Type} {s0 : Int} {F G : Int → VR α} (h : BA s0 G) (he : ∀ B, F B = G B) : BA s0 F := by rw [show F = G from funext he]; exact h
theorem findS_le (L : List UInt8) (p q t k : Int) (m : Bool) : (findS L p q t k m).length ≤ L.length := by
  unfold findS window
  split
  · simp only [List.length_take, List.length_drop]; omega
  · simp
section
variable {D : List UInt8} (hD : D.length ≤ 599)
include hD
end
end
section
open Go.RowKit
def DGood (dp' : Int) (look look' : LookF) : Prop := ∀ p q t k lim deep S S' h, 0 ≤ lim → k ≤ 8 → KInv S.L → look p q t k lim deep S = .ok (S', h) →
  (deep + h - 1 ≤ dp' → look' p q t k lim deep S = .ok (S', h)) ∧ (¬ deep + h - 1 ≤ dp' → ∃ s a, look' p q t k lim deep S = .error (s, a, 61))
end
section
open Go.RowKit
def rootOf (D : List UInt8) : Int := rootE D.length (lastD D 1) (lastD D 2)
def lkM (D : List UInt8) (dp bud : Int) : VR Int :=
  lookM D dp bud (D.length + 1) (rootP D.length (lastD D 1) (lastD D 2)) (rootQ D.length (lastD D 1) (lastD D 2)) (rootT D.length (lastD D 1) (lastD D 2)) (rootW D.length (lastD D 1) (lastD D 2)) (rootP D.length (lastD D 1) (lastD D 2)) 1 ⟨0, [], []⟩
def finM (r : VR Int) : (Int × Int × Int) × Int := match r with
  | .error (s, a, e) => ((s, a, 0), e)
  | .ok (S, h) => ((S.s, 0, h), 0)
theorem rootE_or (n : Int) (c d : UInt8) : rootE n c d = 0 ∨ rootE n c d = 20 ∨ rootE n c d = 210 := by
  unfold rootE; split
  · omega
  · split
    · omega
    · split <;> omega
theorem checkM_bad {D : List UInt8} (h : rootOf D ≠ 0) (dp B : Int) : checkM D dp B = ((0, if rootOf D = 20 then (D.length : Int) - 2 else 0, 0), rootOf D) := by
  have h' : rootE D.length (lastD D 1) (lastD D 2) ≠ 0 := h
  unfold checkM rootOf
  by_cases h2 : rootE D.length (lastD D 1) (lastD D 2) = 20
  · rw [if_pos h2, if_pos h2, h2]
  · rw [if_neg h2, if_pos h', if_neg h2]
theorem checkM_good {D : List UInt8} (h : rootOf D = 0) (dp B : Int) : checkM D dp B = finM (lkM D dp (max B 0)) := by
  have h' : rootE D.length (lastD D 1) (lastD D 2) = 0 := h
  unfold checkM
  rw [if_neg (by omega), if_neg (by omega)]
  rfl
theorem root_may {n : Int} {c d : UInt8} (h : rootE n c d = 0) : mayE n (rootP n c d) (rootQ n c d) (rootT n c d) (rootW n c d) = 0 := by
  have e1 : rootP n c d = n - 2 - c.toNat := by simp [rootP, h]
  have e2 : rootQ n c d = c.toNat := by simp [rootQ, h]
  have e3 : rootT n c d = unpackT d := by simp [rootT, h]
  have e4 : rootW n c d = unpackW d := by simp [rootW, h]
  rw [e1, e2, e3, e4]
  unfold rootE at h
  split at h
  · omega
  · rename_i g1
    split at h
    · omega
    · rename_i g2
      split at h
      · omega
      · rename_i g3
        have hl : legalB ((d.toNat : Int) / 4) = true := by simpa using g2
        have hw : wideB (c.toNat : Int) = true := by simpa using fun h => g1 (.inr h)
        have hu : wideB (unpackW d) = true := by
          unfold unpackW
          rw [hl]
          have h4 : d.toNat % 4 < 4 := Nat.mod_lt _ (by omega)
          generalize d.toNat % 4 = m at h4
          have : m = 0 ∨ m = 1 ∨ m = 2 ∨ m = 3 := by omega
          rcases this with rfl | rfl | rfl | rfl <;> decide
        have ht : unpackT d = (d.toNat : Int) / 4 := by unfold unpackT; rw [hl]; rfl
        have hin : insideB n (n - 2 - c.toNat) c.toNat = true := by
          simp only [insideB, Bool.and_eq_true, decide_eq_true_eq]; omega
        unfold mayE
        rw [ht, hl, hw, hu, hin]; rfl
/-- A failure bears an error. -/
def NE {α : Type} (r : VR α) : Prop := ∀ x, r = .error x → x.2.2 ≠ 0
theorem NE.ok {α : Type} (y : VS × α) : NE (.ok y) := fun x h => by cases h
section
variable (D : List UInt8) (bud : Int)
end
end
end Go.Proofs.Ytmpflnlajakibaa
