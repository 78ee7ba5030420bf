/- The plain model of verify: no program here. Facts of the plain model of verify: heights are bounded. No program here. The plain model of verify and the budget. No program here. The plain model of verify and the maximal depth. No program here. The laws of the plain model of verify: budget and depth. No program here. -/
import Derived.Test.YtmpflnlajakibaaAa
import Derived.Test.YtmpflnlajakibaaA5
import Derived.Test.YtmpflnlajakibaaWalk7
namespace Go.Proofs.Ytmpflnlajakibaa
set_option linter.unusedVariables false
set_option linter.unusedSimpArgs false
set_option linter.unusedSectionVars false
section
open Go.RowKit
/-- What target finds: the backward offset is in bounds, and the data starts before the limit. -/
def tgtB (L : List UInt8) (p q t k lim : Int) : Bool := decide (loadV L p q ≤ p) && decide (beginsV t k (p - loadV L p q) < lim)
abbrev Lead := Int × Int × Int
/-- The state of the check: steps, the data checked with its height, the keys counted. -/
structure VS where
  s : Int
  L : List (Lead × Int)
  C : List Int
/-- A result: a failure (steps, offset, error), or the state and a value. -/
abbrev VR (α : Type) := Except (Int × Int × Int) (VS × α)
def vknown (L : List (Lead × Int)) (x : Lead) : Option Int := (L.find? (fun y => y.1 == x)).map (·.2)
def stepM (bud m a : Int) (S : VS) : VR Unit := if S.s + m ≤ bud then .ok ({ S with s := S.s + m }, ()) else .error (S.s, a, 290)
def targetM (D : List UInt8) (p q t k lim : Int) (S : VS) : VR Int := if tgtB D p q t k lim then .ok (S, p - loadV D p q) else .error (S.s, p, 211)
def lessB : List UInt8 → List UInt8 → Bool
  | _, [] => false
  | [], _ :: _ => true
  | a :: l, b :: r => if a = b then lessB l r else decide (a.toNat < b.toNat)
def keyM (D : List UInt8) (bud p q k at_ : Int) (S : VS) : VR (List UInt8) :=
  if findE D p q 4 k true ≠ 0 then .error (S.s, at_, findE D p q 4 k true)
  else if at_ ∈ S.C then .ok (S, findS D p q 4 k true)
  else match stepM bud ((findS D p q 4 k true).length + 1) p S with
    | .error x => .error x
    | .ok (S', _) => .ok ({ S' with C := at_ :: S'.C }, findS D p q 4 k true)
/-- The width of the keys, the target of the reference to the keys. -/
def kwOf (D : List UInt8) (k from_ : Int) : Int := min (loadV D (from_ + k) k) 9
def keysRefM (D : List UInt8) (k from_ : Int) (S : VS) : VR Int :=
  if from_ < loadV D from_ k then .error (S.s, from_, 211)
  else if wideB (kwOf D k from_) = false then .error (S.s, from_ + k, 212)
  else targetM D from_ k 14 (kwOf D k from_) from_ S
/-- The key i of a map, then what comes after it. -/
def keysStep (D : List UInt8) (bud p q k : Int) (next : Int → List UInt8 → VS → VR Unit) (i : Int) (last : List UInt8) (S : VS) : VR Unit :=
  match stepM bud 1 (latP D p q 14 k i) S with
  | .error x => .error x
  | .ok (S1, _) => match targetM D (latP D p q 14 k i) (latQ D p q 14 k i) (latT D p q 14 k i) (latW D p q 14 k i) (lFrom D p q 14 k) S1 with
    | .error x => .error x
    | .ok (S2, tg) => match keyM D bud (latP D p q 14 k i) (latQ D p q 14 k i) (latW D p q 14 k i) tg S2 with
      | .error x => .error x
      | .ok (S3, s) => if 0 < i ∧ lessB last s = false then .error (S3.s, latP D p q 14 k i, 215) else next (i + 1) s S3
/-- The keys i, i + 1, .. of a map. -/
def keysLoop (D : List UInt8) (bud p q k : Int) : Nat → Int → List UInt8 → VS → VR Unit
  | 0 => fun _ _ S => .ok (S, ())
  | r + 1 => keysStep D bud p q k (keysLoop D bud p q k r)
def keysM (D : List UInt8) (bud k from_ many : Int) (S : VS) : VR Unit :=
  match keysRefM D k from_ S with
  | .error x => .error x
  | .ok (S1, at_) =>
    if lfindE D from_ k 14 (kwOf D k from_) ≠ 0 then .error (S1.s, at_, lfindE D from_ k 14 (kwOf D k from_))
    else if lCnt D from_ k 14 (kwOf D k from_) ≠ many then .error (S1.s, at_, 214)
    else match vknown S1.L (-1, at_, kwOf D k from_) with
      | some _ => .ok (S1, ())
      | none => match keysLoop D bud from_ k (kwOf D k from_) many.toNat 0 [] S1 with
        | .error x => .error x
        | .ok (S2, _) => .ok ({ S2 with L := ((-1, at_, kwOf D k from_), 1) :: S2.L }, ())
/-- The check of a reference: position, parent's width, type, width, limit, depth. -/
abbrev LookF := Int → Int → Int → Int → Int → Int → VS → VR Int
/-- The elements i, i + 1, .. of a vector. -/
def vecLoop (look : LookF) (D : List UInt8) (p q t k at_ deep : Int) : Nat → Int → Int → VS → VR Int
  | 0, _, high, S => .ok (S, high)
  | r + 1, i, high, S =>
    if latE D p q t k i ≠ 0 then .error (S.s, at_ + lCnt D p q t k * k + i, latE D p q t k i)
    else match look (latP D p q t k i) (latQ D p q t k i) (latT D p q t k i) (latW D p q t k i) (lFrom D p q t k) (deep + 1) S with
      | .error x => .error x
      | .ok (S1, h) => vecLoop look D p q t k at_ deep r (i + 1) (max high h) S1
def vecM (look : LookF) (D : List UInt8) (bud p q t k at_ deep : Int) (S : VS) : VR Int :=
  if lfindE D p q t k ≠ 0 then .error (S.s, at_, lfindE D p q t k)
  else match (if t = 9 then keysM D bud k (lFrom D p q t k) (lCnt D p q t k) S else .ok (S, ())) with
    | .error x => .error x
    | .ok (S1, _) => match vecLoop look D p q t k at_ deep (lCnt D p q t k).toNat 0 0 S1 with
      | .error x => .error x
      | .ok (S2, h) => .ok (S2, h + 1)
def partM (look : LookF) (D : List UInt8) (bud p q t k at_ deep : Int) (S : VS) : VR Int :=
  if t = 6 ∨ t = 7 then (if splaceE D p q t k ≠ 0 then .error (S.s, at_, splaceE D p q t k) else .ok (S, 1))
  else if t = 4 then (match keyM D bud p q k at_ S with | .error x => .error x | .ok (S', _) => .ok (S', 1))
  else if t = 5 ∨ t = 25 then (if findE D p q t k true ≠ 0 then .error (S.s, at_, findE D p q t k true) else .ok (S, 1))
  else vecM look D bud p q t k at_ deep S
def leadOf (t a k : Int) : Lead := (t, a, if t = 4 then 0 else k)
def lookM (D : List UInt8) (dp bud : Int) : Nat → LookF
  | 0 => fun _ _ _ _ _ _ S => .error (S.s, 0, -1)
  | f + 1 => fun p q t k lim deep S => match stepM bud 1 p S with
    | .error x => .error x
    | .ok (S1, _) => if dp < deep then .error (S1.s, p, 61) else if inlineB t then .ok (S1, 1)
      else match targetM D p q t k lim S1 with
        | .error x => .error x
        | .ok (S2, at_) => match vknown S2.L (leadOf t at_ k) with
          | some h => if deep + h - 1 ≤ dp then .ok (S2, h) else .error (S2.s, p, 61)
          | none => match partM (lookM D dp bud f) D bud p q t k at_ deep S2 with
            | .error x => .error x
            | .ok (S3, h) => .ok ({ S3 with L := (leadOf t at_ k, h) :: S3.L }, h)
def lastD (D : List UInt8) (i : Nat) : UInt8 := D.getD (D.length - i) 0
/-- The report (steps, offset, height) and the error. -/
def checkM (D : List UInt8) (dp budget : Int) : (Int × Int × Int) × Int :=
  if rootE D.length (lastD D 1) (lastD D 2) = 20 then ((0, D.length - 2, 0), 20)
  else if rootE D.length (lastD D 1) (lastD D 2) ≠ 0 then ((0, 0, 0), rootE D.length (lastD D 1) (lastD D 2))
  else match lookM D dp (max budget 0) (D.length + 1) (rootP D.length (lastD D 1) (lastD D 2)) (rootQ D.length (lastD D 1) (lastD D 2)) (rootT D.length (lastD D 1) (lastD D 2)) (rootW D.length (lastD D 1) (lastD D 2)) (rootP D.length (lastD D 1) (lastD D 2)) 1 ⟨0, [], []⟩ with
    | .error (s, a, e) => ((s, a, 0), e)
    | .ok (S, h) => ((S.s, 0, h), 0)
end
section
open Go.RowKit
/-- Heights are positive, and bounded by the start of the data. -/
def KInv (L : List (Lead × Int)) : Prop := ∀ t a k h, ((t, a, k), h) ∈ L → 1 ≤ h ∧ h ≤ beginsV t k a + 30
theorem vknown_mem {L : List (Lead × Int)} {x : Lead} {h : Int} (hk : vknown L x = some h) : (x, h) ∈ L := by
  unfold vknown at hk
  cases hf : L.find? (fun y => y.1 == x) with
  | none => rw [hf] at hk; cases hk
  | some y =>
    rw [hf] at hk
    have h1 := List.find?_some hf
    have h2 := List.mem_of_find?_eq_some hf
    simp only [Option.map_some, Option.some.injEq] at hk
    have h3 : y.1 = x := by simpa using h1
    rw [← h3, ← hk]; exact h2
theorem vknown_cons (L : List (Lead × Int)) (x y : Lead) (h : Int) : vknown ((x, h) :: L) y = if x = y then some h else vknown L y := by
  unfold vknown
  rw [List.find?_cons]
  by_cases e : x = y
  · subst e; simp
  · have : (x == y) = false := by simpa using e
    simp [this, e]
theorem stepM_ok {bud m a : Int} {S S' : VS} {u : Unit} (h : stepM bud m a S = .ok (S', u)) : S' = { S with s := S.s + m } ∧ S.s + m ≤ bud := by
  unfold stepM at h
  split at h
  · cases h; exact ⟨rfl, by assumption⟩
  · cases h
theorem targetM_ok {D : List UInt8} {p q t k lim x : Int} {S S' : VS} (h : targetM D p q t k lim S = .ok (S', x)) : S' = S ∧ x = p - loadV D p q ∧ tgtB D p q t k lim = true := by
  unfold targetM at h
  split at h
  · cases h; exact ⟨rfl, rfl, by assumption⟩
  · cases h
theorem keyM_L {D : List UInt8} {bud p q k a : Int} {S S' : VS} {s : List UInt8} (h : keyM D bud p q k a S = .ok (S', s)) : S'.L = S.L := by
  unfold keyM at h
  split at h
  · cases h
  · split at h
    · cases h; rfl
    · split at h
      · cases h
      · rename_i heq
        cases h
        rw [(stepM_ok heq).1]
theorem keysLoop_L {D : List UInt8} {bud p q k : Int} {r : Nat} {i : Int} {last : List UInt8} {S S' : VS} {u : Unit} (h : keysLoop D bud p q k r i last S = .ok (S', u)) : S'.L = S.L := by
  induction r generalizing i last S with
  | zero =>
    rw [keysLoop] at h
    simp only [Except.ok.injEq, Prod.mk.injEq] at h
    rw [← h.1]
  | succ r ih =>
    rw [keysLoop, keysStep] at h
    split at h
    · cases h
    · rename_i h1
      split at h
      · cases h
      · rename_i h2
        split at h
        · cases h
        · rename_i h3
          split at h
          · cases h
          · rw [ih h, keyM_L h3, (targetM_ok h2).1, (stepM_ok h1).1]
theorem beginsV_lead (t k a : Int) : beginsV t (if t = 4 then 0 else k) a = beginsV t k a := by
  by_cases h : t = 4
  · subst h; simp [beginsV, show vecB 4 = false from rfl]
  · rw [if_neg h]
theorem kwOf_le (D : List UInt8) (k f : Int) : kwOf D k f ≤ 9 := by unfold kwOf; omega
theorem KInv.cons {L : List (Lead × Int)} (h : KInv L) {t a k x : Int} (h1 : 1 ≤ x) (h2 : x ≤ beginsV t k a + 30) : KInv (((t, a, k), x) :: L) := by
  intro t' a' k' x' hm
  rcases List.mem_cons.1 hm with e | hm
  · cases e; exact ⟨h1, h2⟩
  · exact h _ _ _ _ hm
theorem keysRefM_ok {D : List UInt8} {k f x : Int} {S S' : VS} (h : keysRefM D k f S = .ok (S', x)) : S' = S ∧ 0 ≤ x ∧ x = f - loadV D f k ∧ loadV D f k ≤ f ∧ wideB (kwOf D k f) = true ∧ tgtB D f k 14 (kwOf D k f) f = true := by
  unfold keysRefM at h
  split at h
  · cases h
  · split at h
    · cases h
    · rename_i h0 h1
      obtain ⟨e1, e2, e3⟩ := targetM_ok h
      exact ⟨e1, by omega, e2, by omega, by simpa using h1, e3⟩
theorem keysM_inv {D : List UInt8} {bud k f m : Int} {S S' : VS} {u : Unit} (hk : KInv S.L) (h : keysM D bud k f m S = .ok (S', u)) : KInv S'.L := by
  unfold keysM at h
  split at h
  · cases h
  · rename_i h1
    obtain ⟨e1, e2, -, -, -, -⟩ := keysRefM_ok h1
    split at h
    · cases h
    · split at h
      · cases h
      · split at h
        · cases h; rw [e1]; exact hk
        · split at h
          · cases h
          · rename_i h2
            cases h
            refine KInv.cons ?_ (by omega) ?_
            · rw [keysLoop_L h2, e1]; exact hk
            · have : beginsV (-1) (kwOf D k f) ‹Int› = ‹Int› := by simp [beginsV, show vecB (-1) = false from rfl]
              omega
def LGood (look : LookF) : Prop := ∀ p q t k lim deep S S' h, 0 ≤ lim → k ≤ 8 → KInv S.L → look p q t k lim deep S = .ok (S', h) → KInv S'.L ∧ 1 ≤ h ∧ h ≤ lim + 29
theorem latW_le {L : List UInt8} {p q t k i : Int} (h : k ≤ 8) : latW L p q t k i ≤ 8 := by
  unfold latW unpackW
  split
  · split
    · split
      · have : (tagY L p q t k i).toNat % 4 < 4 := Nat.mod_lt _ (by omega)
        have h3 : (tagY L p q t k i).toNat % 4 ≤ 3 := by omega
        calc (2 : Int) ^ ((tagY L p q t k i).toNat % 4) = ((2 ^ ((tagY L p q t k i).toNat % 4) : Nat) : Int) := by push_cast; rfl
          _ ≤ ((2 ^ 3 : Nat) : Int) := Int.ofNat_le.2 (Nat.pow_le_pow_right (by omega) h3)
          _ = 8 := by decide
      · omega
    · omega
  · omega
theorem lFrom_nonneg (L : List UInt8) (p q t k : Int) : 0 ≤ lFrom L p q t k := by
  by_cases h : lfindE L p q t k = 0
  · exact (lfindE_zero h).2.2.1
  · simp [lFrom, h]
theorem vecLoop_inv {look : LookF} (hl : LGood look) {D : List UInt8} {p q t k a deep : Int} {r : Nat} {i high : Int} {S S' : VS} {h : Int} (hk8 : k ≤ 8) (hk : KInv S.L) (h0 : 0 ≤ high) (h1 : high ≤ lFrom D p q t k + 29)
    (he : vecLoop look D p q t k a deep r i high S = .ok (S', h)) : KInv S'.L ∧ 0 ≤ h ∧ h ≤ lFrom D p q t k + 29 := by
  induction r generalizing i high S with
  | zero => unfold vecLoop at he; cases he; exact ⟨hk, h0, h1⟩
  | succ r ih =>
    unfold vecLoop at he
    split at he
    · cases he
    · split at he
      · cases he
      · rename_i h2
        obtain ⟨g1, g2, g3⟩ := hl _ _ _ _ _ _ _ _ _ (lFrom_nonneg _ _ _ _ _) (latW_le hk8) hk h2
        exact ih g1 (by omega) (by omega) he
theorem lfrom_begins {D : List UInt8} {p q t k : Int} (h : lfindE D p q t k = 0) : beginsV t k (p - loadV D p q) = lFrom D p q t k := by
  obtain ⟨h1, h2, -, h4, -, -, -, -, -, -, h5⟩ := lfindE_zero h
  rw [h5, h4]
  have ev : targetV D p q t k = p - loadV D p q := by simp [targetV, h1]
  rw [ev]
  have hb := manyOf_bd t
  unfold vectorB tagB at h2
  unfold beginsV aheadOf
  by_cases t9 : t = 9
  · subst t9; simp
  · by_cases t10 : t = 10
    · subst t10; simp
    · have e9 : (t == 9) = false := by simpa using t9
      have e10 : (t == 10) = false := by simpa using t10
      simp only [e9, e10, Bool.or_false, Bool.false_or] at h2
      have e5 : (t == 5) = false := by
        cases hh : (t == 5) with
        | false => rfl
        | true => have : t = 5 := by simpa using hh
                  subst this; revert h2; decide
      have e25 : (t == 25) = false := by
        cases hh : (t == 25) with
        | false => rfl
        | true => have : t = 25 := by simpa using hh
                  subst this; revert h2; decide
      simp only [e9, e10, e5, e25, h2, Bool.false_or, Bool.true_and, Bool.false_eq_true, if_false, if_true]
      by_cases hm : manyOf t = 0
      · simp [hm]
      · have : 0 < manyOf t := by omega
        simp [hm, this]
theorem vecM_inv {look : LookF} (hl : LGood look) {D : List UInt8} {bud p q t k a deep : Int} {S S' : VS} {h : Int} (hk8 : k ≤ 8) (hk : KInv S.L) (he : vecM look D bud p q t k a deep S = .ok (S', h)) :
    KInv S'.L ∧ 1 ≤ h ∧ h ≤ beginsV t k (p - loadV D p q) + 30 := by
  unfold vecM at he
  split at he
  · cases he
  · rename_i h0
    have h0 : lfindE D p q t k = 0 := by simpa using h0
    split at he
    · cases he
    · rename_i S1 u1 h1
      have hk1 : KInv S1.L := by
        split at h1
        · exact keysM_inv hk h1
        · cases h1; exact hk
      split at he
      · cases he
      · rename_i h2
        cases he
        have hf := lFrom_nonneg D p q t k
        obtain ⟨g1, g2, g3⟩ := vecLoop_inv hl hk8 hk1 (by omega) (by omega) h2
        rw [lfrom_begins h0]
        exact ⟨g1, by omega, by omega⟩
theorem partM_inv {look : LookF} (hl : LGood look) {D : List UInt8} {bud p q t k a deep : Int} {S S' : VS} {h : Int} (hk8 : k ≤ 8) (h0 : loadV D p q ≤ p) (hk : KInv S.L) (he : partM look D bud p q t k a deep S = .ok (S', h)) :
    KInv S'.L ∧ 1 ≤ h ∧ h ≤ beginsV t k (p - loadV D p q) + 30 := by
  have hb : t ≠ 9 → (1 : Int) ≤ beginsV t k (p - loadV D p q) + 30 := by
    intro t9
    have e9 : (t == 9) = false := by simpa using t9
    unfold beginsV
    simp only [e9, Bool.false_eq_true, if_false]
    split <;> omega
  unfold partM at he
  split at he
  · split at he
    · cases he
    · cases he; exact ⟨hk, by omega, hb (by omega)⟩
  · split at he
    · split at he
      · cases he
      · rename_i h1
        cases he
        rw [keyM_L h1]
        exact ⟨hk, by omega, hb (by omega)⟩
    · split at he
      · split at he
        · cases he
        · cases he; exact ⟨hk, by omega, hb (by omega)⟩
      · exact vecM_inv hl hk8 hk he
theorem tgtB_le {D : List UInt8} {p q t k lim : Int} (h : tgtB D p q t k lim = true) : loadV D p q ≤ p ∧ beginsV t k (p - loadV D p q) < lim := by
  simpa [tgtB] using h
theorem lookM_inv (D : List UInt8) (dp bud : Int) (f : Nat) : LGood (lookM D dp bud f) := by
  induction f with
  | zero => intro p q t k lim deep S S' h _ _ _ he; unfold lookM at he; cases he
  | succ f ih =>
    intro p q t k lim deep S S' h hlim hk8 hk he
    unfold lookM at he
    split at he
    · cases he
    · rename_i h1
      have e1 := (stepM_ok h1).1
      split at he
      · cases he
      · split at he
        · cases he; rw [e1]; exact ⟨hk, by omega, by omega⟩
        · split at he
          · cases he
          · rename_i h2
            obtain ⟨e2, e3, e4⟩ := targetM_ok h2
            obtain ⟨g1, g2⟩ := tgtB_le e4
            subst e2; subst e3
            split at he
            · rename_i h3
              split at he
              · cases he
                have := vknown_mem h3
                rw [e1] at this ⊢
                obtain ⟨k1, k2⟩ := hk _ _ _ _ this
                rw [beginsV_lead] at k2
                exact ⟨hk, k1, by omega⟩
              · cases he
            · split at he
              · cases he
              · rename_i h4
                cases he
                obtain ⟨k0, k1, k2⟩ := partM_inv ih hk8 g1 (by rw [e1]; exact hk) h4
                refine ⟨KInv.cons k0 k1 ?_, k1, by omega⟩
                rw [beginsV_lead]; exact k2
end
section
open Go.RowKit
def vb {α β : Type} (r : VR α) (g : VS → α → VR β) : VR β := match r with
  | .error x => .error x
  | .ok (S, v) => g S v
/-- The law of a check under a budget, from s0 steps on. -/
def BA {α : Type} (s0 : Int) (F : Int → VR α) : Prop := ∀ B, s0 ≤ B →
  (∀ S v, F B = .ok (S, v) → s0 ≤ S.s ∧ S.s ≤ B ∧ (∀ B', S.s ≤ B' → F B' = .ok (S, v)) ∧ (∀ B', s0 ≤ B' → B' < S.s → ∃ s a, F B' = .error (s, a, 290) ∧ s0 ≤ s ∧ s ≤ B')) ∧
  (∀ s a e, F B = .error (s, a, e) → s0 ≤ s ∧ s ≤ B ∧
    (e ≠ 290 → (∀ B', s ≤ B' → F B' = .error (s, a, e)) ∧ (∀ B', s0 ≤ B' → B' < s → ∃ s' a', F B' = .error (s', a', 290) ∧ s0 ≤ s' ∧ s' ≤ B')) ∧
    (e = 290 → ∀ B', B + 600 ≤ B' → (∃ S v, F B' = .ok (S, v) ∧ s < S.s) ∨ ∃ s' a' e', F B' = .error (s', a', e') ∧ s < s'))
theorem BA.bind {α β : Type} {s0 : Int} {F : Int → VR α} {G : Int → VS → α → VR β} (hF : BA s0 F) (hG : ∀ S v, s0 ≤ S.s → BA S.s (fun B => G B S v)) : BA s0 (fun B => vb (F B) (G B)) := by
  intro B hB
  simp only []
  obtain ⟨f1, f2⟩ := hF B hB
  cases hf : F B with
  | error x =>
    obtain ⟨s, a, e⟩ := x
    obtain ⟨k1, k2, k3, k4⟩ := f2 s a e hf
    refine ⟨fun S v h => by simp [vb, hf] at h, fun s' a' e' h => ?_⟩
    simp only [vb, hf, Except.error.injEq, Prod.mk.injEq] at h
    obtain ⟨rfl, rfl, rfl⟩ := h
    refine ⟨k1, k2, fun he => ?_, fun he B' hB' => ?_⟩
    · obtain ⟨j1, j2⟩ := k3 he
      refine ⟨fun B' h' => by simp [vb, j1 B' h'], fun B' h' h'' => ?_⟩
      obtain ⟨s', a', e1, e2, e3⟩ := j2 B' h' h''
      exact ⟨s', a', by simp [vb, e1], e2, e3⟩
    · rcases k4 he B' hB' with ⟨S, v, e1, e2⟩ | ⟨s', a', e', e1, e2⟩
      · obtain ⟨m1, m2⟩ := hF B' (by omega)
        obtain ⟨n1, n2, -, -⟩ := m1 S v e1
        obtain ⟨p1, p2⟩ := hG S v n1 B' n2
        simp only [vb, e1]
        cases hg : G B' S v with
        | ok y => obtain ⟨S2, v2⟩ := y; have := (p1 S2 v2 hg).1; exact .inl ⟨S2, v2, rfl, by omega⟩
        | error y => obtain ⟨s2, a2, e2'⟩ := y; have := (p2 s2 a2 e2' hg).1; exact .inr ⟨s2, a2, e2', rfl, by omega⟩
      · exact .inr ⟨s', a', e', by simp [vb, e1], e2⟩
  | ok y =>
    obtain ⟨S1, v1⟩ := y
    obtain ⟨k1, k2, k3, k4⟩ := f1 S1 v1 hf
    obtain ⟨g1, g2⟩ := hG S1 v1 k1 B k2
    have low : ∀ B', s0 ≤ B' → B' < S1.s → ∃ s a, vb (F B') (G B') = .error (s, a, 290) ∧ s0 ≤ s ∧ s ≤ B' := by
      intro B' h' h''
      obtain ⟨s, a, e1, e2, e3⟩ := k4 B' h' h''
      exact ⟨s, a, by simp [vb, e1], e2, e3⟩
    have high : ∀ B', S1.s ≤ B' → vb (F B') (G B') = G B' S1 v1 := fun B' h' => by simp [vb, k3 B' h']
    refine ⟨fun S v h => ?_, fun s a e h => ?_⟩
    · simp only [vb, hf] at h
      obtain ⟨q1, q2, q3, q4⟩ := g1 S v h
      refine ⟨by omega, q2, fun B' h' => by rw [high B' (by omega)]; exact q3 B' h', fun B' h' h'' => ?_⟩
      by_cases hc : B' < S1.s
      · exact low B' h' hc
      · rw [high B' (by omega)]
        obtain ⟨s, a, e1, e2, e3⟩ := q4 B' (by omega) h''
        exact ⟨s, a, e1, by omega, e3⟩
    · simp only [vb, hf] at h
      obtain ⟨q1, q2, q3, q4⟩ := g2 s a e h
      refine ⟨by omega, q2, fun he => ?_, fun he B' h' => ?_⟩
      · obtain ⟨r1, r2⟩ := q3 he
        refine ⟨fun B' h' => by rw [high B' (by omega)]; exact r1 B' h', fun B' h' h'' => ?_⟩
        by_cases hc : B' < S1.s
        · exact low B' h' hc
        · rw [high B' (by omega)]
          obtain ⟨s', a', e1, e2, e3⟩ := r2 B' (by omega) h''
          exact ⟨s', a', e1, by omega, e3⟩
      · rw [high B' (by omega)]
        exact q4 he B' h'
theorem BA.ok {α : Type} {S : VS} {v : α} : BA S.s (fun _ => .ok (S, v)) := by
  intro B hB
  refine ⟨fun S' v' h => ?_, fun s a e h => by simp at h⟩
  simp only [Except.ok.injEq, Prod.mk.injEq] at h
  obtain ⟨rfl, rfl⟩ := h
  exact ⟨Int.le_refl _, hB, fun _ _ => rfl, fun B' h' h'' => by omega⟩
theorem BA.okC {α : Type} {S S2 : VS} {v : α} (hs : S2.s = S.s) : BA S.s (fun _ => .ok (S2, v)) := hs ▸ BA.ok
theorem BA.error {α : Type} {s a e : Int} (he : e ≠ 290) : BA (α := α) s (fun _ => .error (s, a, e)) := by
  intro B hB
  refine ⟨fun S' v' h => by simp at h, fun s' a' e' h => ?_⟩
  simp only [Except.error.injEq, Prod.mk.injEq] at h
  obtain ⟨rfl, rfl, rfl⟩ := h
  exact ⟨Int.le_refl _, hB, fun _ => ⟨fun _ _ => rfl, fun B' h' h'' => by omega⟩, fun h' => absurd h' he⟩
theorem BA.step {S : VS} {m a : Int} (h1 : 0 < m) (h2 : m ≤ 600) : BA S.s (fun B => stepM B m a S) := by
  intro B hB
  simp only [stepM]
  refine ⟨fun S' v' h => ?_, fun s' a' e' h => ?_⟩
  · split at h
    · cases h
      exact ⟨by show S.s ≤ S.s + m; omega, by assumption, fun B' h' => by rw [if_pos h'], fun B' h' h'' => ⟨S.s, a, by rw [if_neg (by have : B' < S.s + m := h''; omega)], by omega, h'⟩⟩
    · cases h
  · split at h
    · cases h
    · simp only [Except.error.injEq, Prod.mk.injEq] at h
      obtain ⟨rfl, rfl, rfl⟩ := h
      refine ⟨Int.le_refl _, hB, fun h' => absurd rfl h', fun _ B' h' => .inl ⟨{ S with s := S.s + m }, (), by rw [if_pos (by omega)], by show S.s < S.s + m; omega⟩⟩
theorem BA.congr {α : Type} {s0 : Int} {F G : Int → VR α} (h : BA s0 G) (he : ∀ B, F B = G B) : BA s0 F := by rw [show F = G from funext he]; exact h
theorem mayE_ne {n p q t k : Int} : mayE n p q t k ≠ 290 := by unfold mayE; (repeat' split) <;> omega
theorem targetE_ne {L : List UInt8} {p q t k : Int} : targetE L p q t k ≠ 290 := by
  have := mayE_ne (n := L.length) (p := p) (q := q) (t := t) (k := k)
  unfold targetE; (repeat' split) <;> omega
theorem findE_ne {L : List UInt8} {p q t k : Int} {m : Bool} : findE L p q t k m ≠ 290 := by
  have := mayE_ne (n := L.length) (p := p) (q := q) (t := t) (k := k)
  have := targetE_ne (L := L) (p := p) (q := q) (t := t) (k := k)
  unfold findE keyE cntE; (repeat' split) <;> omega
theorem lfindE_ne {L : List UInt8} {p q t k : Int} : lfindE L p q t k ≠ 290 := by
  have := mayE_ne (n := L.length) (p := p) (q := q) (t := t) (k := k)
  have := targetE_ne (L := L) (p := p) (q := q) (t := t) (k := k)
  unfold lfindE; (repeat' split) <;> omega
theorem latE_ne {L : List UInt8} {p q t k i : Int} : latE L p q t k i ≠ 290 := by
  have := lfindE_ne (L := L) (p := p) (q := q) (t := t) (k := k)
  unfold latE unpackE; (repeat' split) <;> omega
theorem splaceE_ne {L : List UInt8} {p q t k : Int} : splaceE L p q t k ≠ 290 := by
  have := mayE_ne (n := L.length) (p := p) (q := q) (t := t) (k := k)
  have := targetE_ne (L := L) (p := p) (q := q) (t := t) (k := k)
  unfold splaceE; (repeat' split) <;> omega
theorem findS_le (L : List UInt8) (p q t k : Int) (m : Bool) : (findS L p q t k m).length ≤ L.length := by
  unfold findS window
  split
  · simp only [List.length_take, List.length_drop]; omega
  · simp
section
variable {D : List UInt8} (hD : D.length ≤ 599)
include hD
theorem keyM_BA (p q k a : Int) (S : VS) : BA S.s (fun B => keyM D B p q k a S) := by
  unfold keyM
  by_cases h1 : findE D p q 4 k true = 0
  · by_cases h2 : a ∈ S.C
    · exact BA.congr (BA.ok (S := S) (v := findS D p q 4 k true)) (fun B => by simp [h1, h2])
    · refine BA.congr (BA.bind (BA.step (S := S) (m := (findS D p q 4 k true).length + 1) (a := p) (by omega) (by have := findS_le D p q 4 k true; omega))
        (G := fun _ S' _ => .ok ({ S' with C := a :: S'.C }, findS D p q 4 k true)) fun S' v _ => BA.okC rfl) (fun B => ?_)
      simp only [h1, h2, ne_eq, not_true_eq_false, if_false, vb]
      split <;> rename_i heq <;> simp only [heq]
  · exact BA.congr (BA.error (a := a) (e := findE D p q 4 k true) findE_ne) (fun B => by simp [h1])
omit hD in
theorem targetM_BA (p q t k lim : Int) (S : VS) : BA S.s (fun _ => targetM D p q t k lim S) := by
  unfold targetM
  split
  · exact BA.ok
  · exact BA.error (by omega)
omit hD in
theorem keysRefM_BA (k f : Int) (S : VS) : BA S.s (fun _ => keysRefM D k f S) := by
  unfold keysRefM
  split
  · exact BA.error (by omega)
  · split
    · exact BA.error (by omega)
    · exact targetM_BA _ _ _ _ _ _
theorem keysLoop_BA (p q k : Int) (r : Nat) (i : Int) (last : List UInt8) (S : VS) : BA S.s (fun B => keysLoop D B p q k r i last S) := by
  induction r generalizing i last S with
  | zero => exact BA.congr BA.ok (fun B => by rw [keysLoop])
  | succ r ih =>
    refine BA.congr (BA.bind (BA.step (S := S) (m := 1) (a := latP D p q 14 k i) (by omega) (by omega))
      (G := fun B S1 _ => vb (targetM D (latP D p q 14 k i) (latQ D p q 14 k i) (latT D p q 14 k i) (latW D p q 14 k i) (lFrom D p q 14 k) S1) fun S2 tg =>
        vb (keyM D B (latP D p q 14 k i) (latQ D p q 14 k i) (latW D p q 14 k i) tg S2) fun S3 s => if 0 < i ∧ lessB last s = false then .error (S3.s, latP D p q 14 k i, 215) else keysLoop D B p q k r (i + 1) s S3)
      fun S1 _ _ => BA.bind (targetM_BA _ _ _ _ _ _) fun S2 tg _ => BA.bind (keyM_BA hD _ _ _ _ _) fun S3 s _ => ?_) (fun B => ?_)
    · by_cases h : 0 < i ∧ lessB last s = false
      · simp only [if_pos h]; exact BA.error (by omega)
      · simp only [if_neg h]; exact ih _ _ _
    · rw [keysLoop, keysStep]
      simp only [vb]
      split <;> rename_i h1 <;> (try simp only [h1])
      split <;> rename_i h2 <;> (try simp only [h2])
      split <;> rename_i h3 <;> (try simp only [h3])
theorem keysM_BA (k f m : Int) (S : VS) : BA S.s (fun B => keysM D B k f m S) := by
  refine BA.congr (BA.bind (keysRefM_BA (D := D) k f S) (G := fun B S1 at_ => if lfindE D f k 14 (kwOf D k f) ≠ 0 then .error (S1.s, at_, lfindE D f k 14 (kwOf D k f))
    else if lCnt D f k 14 (kwOf D k f) ≠ m then .error (S1.s, at_, 214)
    else match vknown S1.L (-1, at_, kwOf D k f) with
      | some _ => .ok (S1, ())
      | none => vb (keysLoop D B f k (kwOf D k f) m.toNat 0 [] S1) fun S2 _ => .ok ({ S2 with L := ((-1, at_, kwOf D k f), 1) :: S2.L }, ())) fun S1 at_ _ => ?_) (fun B => ?_)
  · by_cases h1 : lfindE D f k 14 (kwOf D k f) = 0
    · by_cases h2 : lCnt D f k 14 (kwOf D k f) = m
      · simp only [h1, h2, ne_eq, not_true_eq_false, if_false]
        cases vknown S1.L (-1, at_, kwOf D k f) with
        | some x => exact BA.ok
        | none => exact BA.bind (keysLoop_BA hD _ _ _ _ _ _ _) fun S2 _ _ => BA.okC rfl
      · simp only [h1, h2, ne_eq, not_true_eq_false, not_false_eq_true, if_false, if_true]; exact BA.error (by omega)
    · simp only [h1, ne_eq, not_false_eq_true, if_true]; exact BA.error lfindE_ne
  · unfold keysM
    simp only [vb]
    split <;> rename_i h1 <;> (try simp only [h1])
    split
    · rfl
    · split
      · rfl
      · split <;> rename_i h2 <;> (try simp only [h2])
        split <;> rename_i h3 <;> (try simp only [h3])
theorem vecLoop_BA {look : Int → LookF} (hl : ∀ p q t k lim deep S, BA S.s (fun B => look B p q t k lim deep S)) (p q t k a deep : Int) (r : Nat) (i high : Int) (S : VS) : BA S.s (fun B => vecLoop (look B) D p q t k a deep r i high S) := by
  induction r generalizing i high S with
  | zero => exact BA.congr BA.ok (fun B => by rw [vecLoop])
  | succ r ih =>
    by_cases h1 : latE D p q t k i = 0
    · refine BA.congr (BA.bind (hl (latP D p q t k i) (latQ D p q t k i) (latT D p q t k i) (latW D p q t k i) (lFrom D p q t k) (deep + 1) S)
        (G := fun B S1 h => vecLoop (look B) D p q t k a deep r (i + 1) (max high h) S1) fun S1 h _ => ih _ _ _) (fun B => ?_)
      rw [vecLoop]
      simp only [h1, ne_eq, not_true_eq_false, if_false, vb]
      split <;> rename_i h2 <;> (try simp only [h2])
    · exact BA.congr (BA.error (a := a + lCnt D p q t k * k + i) (e := latE D p q t k i) latE_ne) (fun B => by rw [vecLoop]; simp [h1])
theorem vecM_BA {look : Int → LookF} (hl : ∀ p q t k lim deep S, BA S.s (fun B => look B p q t k lim deep S)) (p q t k a deep : Int) (S : VS) : BA S.s (fun B => vecM (look B) D B p q t k a deep S) := by
  by_cases h1 : lfindE D p q t k = 0
  · refine BA.congr (BA.bind (F := fun B => if t = 9 then keysM D B k (lFrom D p q t k) (lCnt D p q t k) S else .ok (S, ())) (s0 := S.s) ?_
      (G := fun B S1 _ => vb (vecLoop (look B) D p q t k a deep (lCnt D p q t k).toNat 0 0 S1) fun S2 h => .ok (S2, h + 1)) fun S1 _ _ => BA.bind (vecLoop_BA hD hl _ _ _ _ _ _ _ _ _ _) fun S2 h _ => BA.ok) (fun B => ?_)
    · by_cases h : t = 9
      · simp only [if_pos h]; exact keysM_BA hD _ _ _ _
      · simp only [if_neg h]; exact BA.ok
    · unfold vecM
      simp only [h1, ne_eq, not_true_eq_false, if_false, vb]
      split <;> rename_i h2 <;> (try simp only [h2])
      split <;> rename_i h3 <;> (try simp only [h3])
  · exact BA.congr (BA.error (a := a) (e := lfindE D p q t k) lfindE_ne) (fun B => by unfold vecM; simp [h1])
theorem partM_BA {look : Int → LookF} (hl : ∀ p q t k lim deep S, BA S.s (fun B => look B p q t k lim deep S)) (p q t k a deep : Int) (S : VS) : BA S.s (fun B => partM (look B) D B p q t k a deep S) := by
  unfold partM
  by_cases h1 : t = 6 ∨ t = 7
  · simp only [if_pos h1]
    split
    · exact BA.error splaceE_ne
    · exact BA.ok
  · by_cases h2 : t = 4
    · simp only [if_neg h1, if_pos h2]
      refine BA.congr (BA.bind (keyM_BA hD p q k a S) (G := fun _ S' _ => .ok (S', (1 : Int))) fun S' _ _ => BA.ok) (fun B => ?_)
      simp only [vb]
      split <;> rename_i h3 <;> (try simp only [h3])
    · by_cases h3 : t = 5 ∨ t = 25
      · simp only [if_neg h1, if_neg h2, if_pos h3]
        split
        · exact BA.error findE_ne
        · exact BA.ok
      · simp only [if_neg h1, if_neg h2, if_neg h3]
        exact vecM_BA hD hl _ _ _ _ _ _ _
theorem lookM_BA (dp : Int) (f : Nat) (p q t k lim deep : Int) (S : VS) : BA S.s (fun B => lookM D dp B f p q t k lim deep S) := by
  induction f generalizing p q t k lim deep S with
  | zero => unfold lookM; exact BA.error (by omega)
  | succ f ih =>
    refine BA.congr (BA.bind (BA.step (S := S) (m := 1) (a := p) (by omega) (by omega)) (G := fun B S1 _ => if dp < deep then .error (S1.s, p, 61) else if inlineB t then .ok (S1, 1)
      else vb (targetM D p q t k lim S1) fun S2 at_ => match vknown S2.L (leadOf t at_ k) with
          | some h => if deep + h - 1 ≤ dp then .ok (S2, h) else .error (S2.s, p, 61)
          | none => vb (partM (lookM D dp B f) D B p q t k at_ deep S2) fun S3 h => .ok ({ S3 with L := (leadOf t at_ k, h) :: S3.L }, h)) fun S1 _ _ => ?_) (fun B => ?_)
    · by_cases h1 : dp < deep
      · simp only [if_pos h1]; exact BA.error (by omega)
      · by_cases h2 : inlineB t = true
        · simp only [if_neg h1, if_pos h2]; exact BA.ok
        · simp only [if_neg h1, if_neg h2]
          refine BA.bind (targetM_BA _ _ _ _ _ _) fun S2 at_ _ => ?_
          cases hk : vknown S2.L (leadOf t at_ k) with
          | some h =>
            by_cases h3 : deep + h - 1 ≤ dp
            · simp only [if_pos h3]; exact BA.ok
            · simp only [if_neg h3]; exact BA.error (by omega)
          | none => exact BA.bind (partM_BA hD (look := fun B => lookM D dp B f) (fun p q t k lim deep S => ih p q t k lim deep S) _ _ _ _ _ _ _) fun S3 h _ => BA.okC rfl
    · rw [lookM]
      simp only [vb]
      split <;> rename_i h1 <;> (try simp only [h1])
      split
      · rfl
      · split
        · rfl
        · split <;> rename_i h2 <;> (try simp only [h2])
          split <;> rename_i h3 <;> (try simp only [h3])
          split <;> rename_i h4 <;> (try simp only [h4])
end
end
section
open Go.RowKit
def DGood (dp' : Int) (look look' : LookF) : Prop := ∀ p q t k lim deep S S' h, 0 ≤ lim → k ≤ 8 → KInv S.L → look p q t k lim deep S = .ok (S', h) →
  (deep + h - 1 ≤ dp' → look' p q t k lim deep S = .ok (S', h)) ∧ (¬ deep + h - 1 ≤ dp' → ∃ s a, look' p q t k lim deep S = .error (s, a, 61))
theorem vecLoop_dep {dp' : Int} {look look' : LookF} (hl : LGood look) (hd : DGood dp' look look') {D : List UInt8} {p q t k a deep : Int} {r : Nat} {i high : Int} {S S' : VS} {h : Int} (hk8 : k ≤ 8) (hk : KInv S.L)
    (he : vecLoop look D p q t k a deep r i high S = .ok (S', h)) : high ≤ h ∧ (deep + h ≤ dp' → vecLoop look' D p q t k a deep r i high S = .ok (S', h)) ∧
      (¬ deep + h ≤ dp' → deep + high ≤ dp' → ∃ s a', vecLoop look' D p q t k a deep r i high S = .error (s, a', 61)) := by
  induction r generalizing i high S with
  | zero => unfold vecLoop at he ⊢; cases he; exact ⟨Int.le_refl _, fun _ => rfl, fun h1 h2 => absurd h2 h1⟩
  | succ r ih =>
    unfold vecLoop at he ⊢
    split at he
    · cases he
    · rename_i h0
      rw [if_neg h0]
      split at he
      · cases he
      · rename_i S1 h1 h2
        obtain ⟨g1, g2, g3⟩ := hl _ _ _ _ _ _ _ _ _ (lFrom_nonneg _ _ _ _ _) (latW_le hk8) hk h2
        obtain ⟨d1, d2⟩ := hd _ _ _ _ _ _ _ _ _ (lFrom_nonneg _ _ _ _ _) (latW_le hk8) hk h2
        obtain ⟨i1, i2, i3⟩ := ih g1 he
        refine ⟨by omega, fun h => ?_, fun h h' => ?_⟩
        · rw [d1 (by omega)]; exact i2 h
        · by_cases hc : deep + 1 + h1 - 1 ≤ dp'
          · rw [d1 hc]; exact i3 h (by omega)
          · obtain ⟨s, a', e⟩ := d2 hc
            rw [e]; exact ⟨s, a', rfl⟩
theorem vecM_dep {dp' : Int} {look look' : LookF} (hl : LGood look) (hd : DGood dp' look look') {D : List UInt8} {bud p q t k a deep : Int} {S S' : VS} {h : Int} (hk8 : k ≤ 8) (hk : KInv S.L) (hdp : deep ≤ dp')
    (he : vecM look D bud p q t k a deep S = .ok (S', h)) : (deep + h - 1 ≤ dp' → vecM look' D bud p q t k a deep S = .ok (S', h)) ∧ (¬ deep + h - 1 ≤ dp' → ∃ s a', vecM look' D bud p q t k a deep S = .error (s, a', 61)) := by
  unfold vecM at he ⊢
  split at he
  · cases he
  · rename_i h0
    rw [if_neg h0]
    split at he
    · cases he
    · rename_i S1 u1 h1
      have hk1 : KInv S1.L := by
        split at h1
        · exact keysM_inv hk h1
        · cases h1; exact hk
      split at he
      · cases he
      · rename_i h2
        cases he
        obtain ⟨g1, g2, g3⟩ := vecLoop_dep hl hd hk8 hk1 h2
        refine ⟨fun h => ?_, fun h => ?_⟩
        · rw [g2 (by omega)]
        · obtain ⟨s, a', e⟩ := g3 (by omega) (by omega)
          rw [e]; exact ⟨s, a', rfl⟩
theorem lookM_dep (D : List UInt8) (dp dp' bud : Int) (f : Nat) : DGood dp' (lookM D dp bud f) (lookM D dp' bud f) := by
  induction f with
  | zero => intro p q t k lim deep S S' h _ _ _ he; unfold lookM at he; cases he
  | succ f ih =>
    intro p q t k lim deep S S' h hlim hk8 hk he
    have h1 := (lookM_inv D dp bud (f + 1) p q t k lim deep S S' h hlim hk8 hk he).2.1
    unfold lookM at he ⊢
    split at he
    · cases he
    · rename_i hs
      have e1 := (stepM_ok hs).1
      split at he
      · cases he
      · by_cases hdp : dp' < deep
        · refine ⟨fun h => by omega, fun _ => ⟨_, _, if_pos hdp⟩⟩
        · simp only [if_neg hdp]
          split at he
          · rename_i hi
            cases he
            simp only [hi, if_true]
            exact ⟨fun _ => trivial, fun h => by omega⟩
          · rename_i hi
            simp only [hi, Bool.false_eq_true, if_false]
            split at he
            · cases he
            · rename_i S2 tg h2
              (try rw [h2])
              obtain ⟨e2, e3, e4⟩ := targetM_ok h2
              obtain ⟨g1, g2⟩ := tgtB_le e4
              subst e2; subst e3
              (try simp only [])
              split at he
              · rename_i h3
                (try simp only [h3])
                split at he
                · cases he
                  exact ⟨fun h => by rw [if_pos h], fun h => ⟨_, _, by rw [if_neg h]⟩⟩
                · cases he
              · rename_i h3
                (try simp only [h3])
                split at he
                · cases he
                · rename_i h4
                  cases he
                  have hp : ∀ {S3 : VS} {h : Int}, partM (lookM D dp bud f) D bud p q t k (p - loadV D p q) deep S2 = .ok (S3, h) →
                      (deep + h - 1 ≤ dp' → partM (lookM D dp' bud f) D bud p q t k (p - loadV D p q) deep S2 = .ok (S3, h)) ∧ (¬ deep + h - 1 ≤ dp' → ∃ s a', partM (lookM D dp' bud f) D bud p q t k (p - loadV D p q) deep S2 = .error (s, a', 61)) := by
                    intro S3 h hpm
                    unfold partM at hpm ⊢
                    split at hpm
                    · rename_i c1
                      rw [if_pos c1]
                      split at hpm
                      · cases hpm
                      · rename_i c2
                        cases hpm
                        rw [if_neg c2]
                        exact ⟨fun _ => rfl, fun h => by omega⟩
                    · rename_i c1
                      (try rw [if_neg c1])
                      split at hpm
                      · rename_i c2
                        rw [if_pos c2]
                        split at hpm
                        · cases hpm
                        · rename_i c3
                          cases hpm
                          (try rw [c3])
                          exact ⟨fun _ => rfl, fun h => by omega⟩
                      · rename_i c2
                        rw [if_neg c2]
                        split at hpm
                        · rename_i c3
                          rw [if_pos c3]
                          split at hpm
                          · cases hpm
                          · rename_i c4
                            cases hpm
                            rw [if_neg c4]
                            exact ⟨fun _ => rfl, fun h => by omega⟩
                        · rename_i c3
                          rw [if_neg c3]
                          exact vecM_dep (lookM_inv D dp bud f) ih hk8 (by rw [e1]; exact hk) (by omega) hpm
                  obtain ⟨p1, p2⟩ := hp h4
                  refine ⟨fun h => by rw [p1 h], fun h => ?_⟩
                  obtain ⟨s, a', e⟩ := p2 h
                  rw [e]; exact ⟨s, a', rfl⟩
end
section
open Go.RowKit
def rootOf (D : List UInt8) : Int := rootE D.length (lastD D 1) (lastD D 2)
def lkM (D : List UInt8) (dp bud : Int) : VR Int :=
  lookM D dp bud (D.length + 1) (rootP D.length (lastD D 1) (lastD D 2)) (rootQ D.length (lastD D 1) (lastD D 2)) (rootT D.length (lastD D 1) (lastD D 2)) (rootW D.length (lastD D 1) (lastD D 2)) (rootP D.length (lastD D 1) (lastD D 2)) 1 ⟨0, [], []⟩
def finM (r : VR Int) : (Int × Int × Int) × Int := match r with
  | .error (s, a, e) => ((s, a, 0), e)
  | .ok (S, h) => ((S.s, 0, h), 0)
theorem rootE_or (n : Int) (c d : UInt8) : rootE n c d = 0 ∨ rootE n c d = 20 ∨ rootE n c d = 210 := by
  unfold rootE; split
  · omega
  · split
    · omega
    · split <;> omega
theorem checkM_bad {D : List UInt8} (h : rootOf D ≠ 0) (dp B : Int) : checkM D dp B = ((0, if rootOf D = 20 then (D.length : Int) - 2 else 0, 0), rootOf D) := by
  have h' : rootE D.length (lastD D 1) (lastD D 2) ≠ 0 := h
  unfold checkM rootOf
  by_cases h2 : rootE D.length (lastD D 1) (lastD D 2) = 20
  · rw [if_pos h2, if_pos h2, h2]
  · rw [if_neg h2, if_pos h', if_neg h2]
theorem checkM_good {D : List UInt8} (h : rootOf D = 0) (dp B : Int) : checkM D dp B = finM (lkM D dp (max B 0)) := by
  have h' : rootE D.length (lastD D 1) (lastD D 2) = 0 := h
  unfold checkM
  rw [if_neg (by omega), if_neg (by omega)]
  rfl
theorem lkM_BA (D : List UInt8) (hn : D.length ≤ 599) (dp : Int) : BA 0 (lkM D dp) := lookM_BA hn dp _ _ _ _ _ _ _ ⟨0, [], []⟩
/-- The law of the budget. -/
theorem budget_law (D : List UInt8) (hn : D.length ≤ 599) (dp budget : Int) :
    0 ≤ (checkM D dp budget).1.1 ∧ (checkM D dp budget).1.1 ≤ max budget 0 ∧
    ((checkM D dp budget).2 = 290 → ((checkM D dp (max budget 0 + 600)).2 ≠ 290 ∧ (checkM D dp budget).1.1 ≤ (checkM D dp (max budget 0 + 600)).1.1) ∨
      ((checkM D dp (max budget 0 + 600)).2 = 290 ∧ (checkM D dp budget).1.1 < (checkM D dp (max budget 0 + 600)).1.1)) ∧
    ((checkM D dp budget).2 ≠ 290 → (∀ B, (checkM D dp budget).1.1 ≤ B → checkM D dp B = checkM D dp budget) ∧
      (0 < (checkM D dp budget).1.1 → (checkM D dp ((checkM D dp budget).1.1 - 1)).2 = 290 ∧ (checkM D dp ((checkM D dp budget).1.1 - 1)).1.1 < (checkM D dp budget).1.1)) := by
  by_cases hr : rootOf D = 0
  · have hB := lkM_BA D hn dp (max budget 0) (by omega)
    rw [checkM_good hr]
    cases hx : lkM D dp (max budget 0) with
    | ok y =>
      obtain ⟨S, v⟩ := y
      obtain ⟨h1, h2, h3, h4⟩ := hB.1 S v hx
      simp only [finM]
      refine ⟨h1, h2, fun h => by omega, fun _ => ⟨fun B hb => ?_, fun hp => ?_⟩⟩
      · rw [checkM_good hr, h3 (max B 0) (by omega)]; rfl
      · obtain ⟨s, a, e1, e2, e3⟩ := h4 (S.s - 1) (by omega) (by omega)
        rw [checkM_good hr, show max (S.s - 1) 0 = S.s - 1 by omega, e1]
        exact ⟨rfl, by show s < S.s; omega⟩
    | error y =>
      obtain ⟨s, a, e⟩ := y
      obtain ⟨h1, h2, h3, h4⟩ := hB.2 s a e hx
      simp only [finM]
      refine ⟨h1, h2, fun h => ?_, fun he => ⟨fun B hb => ?_, fun hp => ?_⟩⟩
      · rw [checkM_good hr, show max (max budget 0 + 600) 0 = max budget 0 + 600 by omega]
        rcases h4 h (max budget 0 + 600) (by omega) with ⟨S, v, e1, e2⟩ | ⟨s', a', e', e1, e2⟩
        · rw [e1]; left; exact ⟨by show (0 : Int) ≠ 290; omega, by show s ≤ S.s; omega⟩
        · rw [e1]
          by_cases h9 : e' = 290
          · right; exact ⟨h9, e2⟩
          · left; exact ⟨h9, by show s ≤ s'; omega⟩
      · rw [checkM_good hr, (h3 he).1 (max B 0) (by omega)]; rfl
      · obtain ⟨s', a', e1, e2, e3⟩ := (h3 he).2 (s - 1) (by omega) (by omega)
        rw [checkM_good hr, show max (s - 1) 0 = s - 1 by omega, e1]
        exact ⟨rfl, by show s' < s; omega⟩
  · have ho : rootOf D ≠ 290 := by have := rootE_or D.length (lastD D 1) (lastD D 2); unfold rootOf at *; omega
    simp only [checkM_bad hr]
    exact ⟨Int.le_refl _, by omega, fun h => absurd h ho, fun _ => ⟨fun _ _ => trivial, fun h => by omega⟩⟩
theorem root_may {n : Int} {c d : UInt8} (h : rootE n c d = 0) : mayE n (rootP n c d) (rootQ n c d) (rootT n c d) (rootW n c d) = 0 := by
  have e1 : rootP n c d = n - 2 - c.toNat := by simp [rootP, h]
  have e2 : rootQ n c d = c.toNat := by simp [rootQ, h]
  have e3 : rootT n c d = unpackT d := by simp [rootT, h]
  have e4 : rootW n c d = unpackW d := by simp [rootW, h]
  rw [e1, e2, e3, e4]
  unfold rootE at h
  split at h
  · omega
  · rename_i g1
    split at h
    · omega
    · rename_i g2
      split at h
      · omega
      · rename_i g3
        have hl : legalB ((d.toNat : Int) / 4) = true := by simpa using g2
        have hw : wideB (c.toNat : Int) = true := by simpa using fun h => g1 (.inr h)
        have hu : wideB (unpackW d) = true := by
          unfold unpackW
          rw [hl]
          have h4 : d.toNat % 4 < 4 := Nat.mod_lt _ (by omega)
          generalize d.toNat % 4 = m at h4
          have : m = 0 ∨ m = 1 ∨ m = 2 ∨ m = 3 := by omega
          rcases this with rfl | rfl | rfl | rfl <;> decide
        have ht : unpackT d = (d.toNat : Int) / 4 := by unfold unpackT; rw [hl]; rfl
        have hin : insideB n (n - 2 - c.toNat) c.toNat = true := by
          simp only [insideB, Bool.and_eq_true, decide_eq_true_eq]; omega
        unfold mayE
        rw [ht, hl, hw, hu, hin]; rfl
/-- A failure bears an error. -/
def NE {α : Type} (r : VR α) : Prop := ∀ x, r = .error x → x.2.2 ≠ 0
theorem NE.ok {α : Type} (y : VS × α) : NE (.ok y) := fun x h => by cases h
theorem NE.err {α : Type} {s a e : Int} (h : e ≠ 0) : NE (α := α) (.error (s, a, e)) := fun x hx => by cases hx; exact h
theorem NE.up {α β : Type} {r : VR α} (h : NE r) {x : Int × Int × Int} (hx : r = .error x) : NE (α := β) (.error x) := fun y hy => by cases hy; exact h x hx
section
variable (D : List UInt8) (bud : Int)
theorem stepM_NE (m a : Int) (S : VS) : NE (stepM bud m a S) := by
  unfold stepM; split
  · exact NE.ok _
  · exact NE.err (by omega)
theorem targetM_NE (p q t k lim : Int) (S : VS) : NE (targetM D p q t k lim S) := by
  unfold targetM; split
  · exact NE.ok _
  · exact NE.err (by omega)
theorem keyM_NE (p q k a : Int) (S : VS) : NE (keyM D bud p q k a S) := by
  unfold keyM; split
  · rename_i h; exact NE.err h
  · split
    · exact NE.ok _
    · split
      · rename_i h; exact (stepM_NE bud _ _ _).up h
      · exact NE.ok _
theorem keysRefM_NE (k f : Int) (S : VS) : NE (keysRefM D k f S) := by
  unfold keysRefM; split
  · exact NE.err (by omega)
  · split
    · exact NE.err (by omega)
    · exact targetM_NE D _ _ _ _ _ _
theorem keysLoop_NE (p q k : Int) (r : Nat) (i : Int) (last : List UInt8) (S : VS) : NE (keysLoop D bud p q k r i last S) := by
  induction r generalizing i last S with
  | zero => unfold keysLoop; exact NE.ok _
  | succ r ih =>
    unfold keysLoop keysStep
    split
    · rename_i h; exact (stepM_NE bud _ _ _).up h
    · split
      · rename_i h; exact (targetM_NE D _ _ _ _ _ _).up h
      · split
        · rename_i h; exact (keyM_NE D bud _ _ _ _ _).up h
        · split
          · exact NE.err (by omega)
          · exact ih _ _ _
theorem keysM_NE (k f m : Int) (S : VS) : NE (keysM D bud k f m S) := by
  unfold keysM; split
  · rename_i h; exact (keysRefM_NE D _ _ _).up h
  · split
    · rename_i h; exact NE.err h
    · split
      · exact NE.err (by omega)
      · split
        · exact NE.ok _
        · split
          · rename_i h; exact (keysLoop_NE D bud _ _ _ _ _ _ _).up h
          · exact NE.ok _
theorem vecLoop_NE {look : LookF} (hl : ∀ p q t k lim deep S, NE (look p q t k lim deep S)) (p q t k a deep : Int) (r : Nat) (i high : Int) (S : VS) : NE (vecLoop look D p q t k a deep r i high S) := by
  induction r generalizing i high S with
  | zero => unfold vecLoop; exact NE.ok _
  | succ r ih =>
    unfold vecLoop; split
    · rename_i h; exact NE.err h
    · split
      · rename_i h; exact (hl _ _ _ _ _ _ _).up h
      · exact ih _ _ _
theorem vecM_NE {look : LookF} (hl : ∀ p q t k lim deep S, NE (look p q t k lim deep S)) (p q t k a deep : Int) (S : VS) : NE (vecM look D bud p q t k a deep S) := by
  unfold vecM; split
  · rename_i h; exact NE.err h
  · split
    · rename_i h
      split at h
      · exact (keysM_NE D bud _ _ _ _).up h
      · cases h
    · split
      · rename_i h; exact (vecLoop_NE D hl _ _ _ _ _ _ _ _ _ _).up h
      · exact NE.ok _
theorem partM_NE {look : LookF} (hl : ∀ p q t k lim deep S, NE (look p q t k lim deep S)) (p q t k a deep : Int) (S : VS) : NE (partM look D bud p q t k a deep S) := by
  unfold partM; split
  · split
    · rename_i h; exact NE.err h
    · exact NE.ok _
  · split
    · split
      · rename_i h; exact (keyM_NE D bud _ _ _ _ _).up h
      · exact NE.ok _
    · split
      · split
        · rename_i h; exact NE.err h
        · exact NE.ok _
      · exact vecM_NE D bud hl _ _ _ _ _ _ _
theorem lookM_NE (dp : Int) (f : Nat) (p q t k lim deep : Int) (S : VS) : NE (lookM D dp bud f p q t k lim deep S) := by
  induction f generalizing p q t k lim deep S with
  | zero => unfold lookM; exact NE.err (by omega)
  | succ f ih =>
    unfold lookM; split
    · rename_i h; exact (stepM_NE bud _ _ _).up h
    · split
      · exact NE.err (by omega)
      · split
        · exact NE.ok _
        · split
          · rename_i h; exact (targetM_NE D _ _ _ _ _ _).up h
          · split
            · split
              · exact NE.ok _
              · exact NE.err (by omega)
            · split
              · rename_i h; exact (partM_NE D bud ih _ _ _ _ _ _ _).up h
              · exact NE.ok _
end
/-- The law of the depth. -/
theorem depth_law (D : List UInt8) (dp d B : Int) :
    ((checkM D dp B).2 ≠ 0 → (checkM D dp B).1.2.2 = 0) ∧
    ((checkM D dp B).2 = 0 → 1 ≤ (checkM D dp B).1.2.2 ∧ (checkM D dp B).1.2.2 ≤ D.length + 30 ∧ ((checkM D dp B).1.2.2 ≤ d → checkM D d B = checkM D dp B) ∧
      (d < (checkM D dp B).1.2.2 → (checkM D d B).2 = 61 ∧ (checkM D d B).1.2.2 = 0)) := by
  by_cases hr : rootOf D = 0
  · obtain ⟨m1, m2, m3, m4, m5, m6, m7, m8, m9⟩ := mayE_zero (root_may (show rootE D.length (lastD D 1) (lastD D 2) = 0 from hr))
    rw [checkM_good hr]
    cases hx : lkM D dp (max B 0) with
    | ok y =>
      obtain ⟨S, h⟩ := y
      simp only [finM]
      refine ⟨fun h => absurd rfl h, fun _ => ?_⟩
      have k0 : KInv (VS.mk 0 [] []).L := fun _ _ _ _ hm => absurd hm (by simp)
      obtain ⟨i1, i2, i3⟩ := lookM_inv D dp (max B 0) _ _ _ _ _ _ _ _ _ _ m4 m8 k0 hx
      obtain ⟨j1, j2⟩ := lookM_dep D dp d (max B 0) _ _ _ _ _ _ _ _ _ _ m4 m8 k0 hx
      refine ⟨i2, by omega, fun hd => ?_, fun hd => ?_⟩
      · rw [checkM_good hr]
        have : lkM D d (max B 0) = .ok (S, h) := j1 (by omega)
        rw [this]; rfl
      · rw [checkM_good hr]
        obtain ⟨s, a, e⟩ := j2 (by omega)
        have : lkM D d (max B 0) = .error (s, a, 61) := e
        rw [this]; exact ⟨rfl, rfl⟩
    | error y =>
      obtain ⟨s, a, e⟩ := y
      simp only [finM]
      have he := lookM_NE D (max B 0) dp _ _ _ _ _ _ _ _ _ hx
      exact ⟨fun _ => trivial, fun h => absurd h he⟩
  · rw [checkM_bad hr dp B]
    exact ⟨fun _ => rfl, fun h => absurd h hr⟩
end
section
open Go.RowKit
open Go.ChangeMaps (setBlock)
/-- Of the blocks that were there only those in S may have changed. -/
structure Touch (S : List Nat) (w w' : World) : Prop where
  os : w'.os = w.os
  tape : w'.tape = w.tape
  output : w'.output = w.output
  size : w.heap.size ≤ w'.heap.size
  block : ∀ i, i < w.heap.size → i ∉ S → w'.heap[i]? = w.heap[i]?
theorem Touch.refl (S : List Nat) (w : World) : Touch S w w := ⟨rfl, rfl, rfl, Nat.le_refl _, fun _ _ _ => rfl⟩
theorem Touch.trans {S : List Nat} {a b c : World} (h : Touch S a b) (k : Touch S b c) : Touch S a c :=
  ⟨k.os.trans h.os, k.tape.trans h.tape, k.output.trans h.output, Nat.le_trans h.size k.size, fun i hi hs => (k.block i (Nat.lt_of_lt_of_le hi h.size) hs).trans (h.block i hi hs)⟩
theorem Touch.quiet {S : List Nat} {w w' : World} (h : Below w.heap.size w w') : Touch S w w' := ⟨h.os, h.tape, h.output, h.size, fun i hi _ => h.block i hi⟩
theorem Touch.mono {S S' : List Nat} {w w' : World} (h : Touch S w w') (hs : ∀ x ∈ S, x ∈ S') : Touch S' w w' := ⟨h.os, h.tape, h.output, h.size, fun i hi hn => h.block i hi fun hx => hn (hs i hx)⟩
theorem Touch.setCell (w : World) (b o : Nat) (v : Value) : Touch [b] w (w.setCell ⟨b, o, none⟩ v) :=
  ⟨rfl, rfl, rfl, by simp, fun i _ hs => heap_setCell_other _ _ _ _ (by simpa using hs)⟩
theorem Touch.drew (w : World) (S : List Nat) : Touch S w w.drew := ⟨rfl, rfl, rfl, Nat.le_refl _, fun _ _ _ => rfl⟩
def tellE (e x : Int) : Int := if e = 0 then x else e
def tellA (e at_ a : Int) : Int := if e = 0 then a else at_
theorem Doc.touch {w w' : World} {b o n cap : Nat} {L : List UInt8} (D : Doc w b o n cap L) {T : List Nat} (h : Touch T w w') (hb : b ∉ T) : Doc w' b o n cap L :=
  ⟨D.len, D.le, D.max, D.sm, fun i hi => by
    rw [World.cell?_of_block (w := w) (w' := w') (a := ⟨b, o + i, none⟩) (h.block b D.lt hb)]; exact D.at_ i hi, Nat.lt_of_lt_of_le D.lt h.size⟩
/-- Of the blocks below B only those in T may have changed. -/
structure Tch (B : Nat) (T : List Nat) (w w' : World) : Prop where
  os : w'.os = w.os
  tape : w'.tape = w.tape
  output : w'.output = w.output
  size : w.heap.size ≤ w'.heap.size
  block : ∀ i, i < B → i ∉ T → w'.heap[i]? = w.heap[i]?
theorem Tch.refl (B : Nat) (T : List Nat) (w : World) : Tch B T w w := ⟨rfl, rfl, rfl, Nat.le_refl _, fun _ _ _ => rfl⟩
theorem Tch.trans {B : Nat} {T : List Nat} {a b c : World} (h : Tch B T a b) (k : Tch B T b c) : Tch B T a c :=
  ⟨k.os.trans h.os, k.tape.trans h.tape, k.output.trans h.output, Nat.le_trans h.size k.size, fun i hi hn => (k.block i hi hn).trans (h.block i hi hn)⟩
theorem Touch.tch {B : Nat} {T : List Nat} {w w' : World} (h : Touch T w w') (hB : B ≤ w.heap.size) : Tch B T w w' := ⟨h.os, h.tape, h.output, h.size, fun i hi hn => h.block i (Nat.lt_of_lt_of_le hi hB) hn⟩
theorem Tch.touch {T : List Nat} {w w' : World} (h : Tch w.heap.size T w w') : Touch T w w' := ⟨h.os, h.tape, h.output, h.size, h.block⟩
theorem Below.tch {B : Nat} {T : List Nat} {w w' : World} (h : Below B w w') : Tch B T w w' := ⟨h.os, h.tape, h.output, h.size, fun i hi _ => h.block i hi⟩
theorem tch_call {B : Nat} {T : List Nat} {w w0 w1 : World} (h : Touch T w0 w1) (h0 : Tch B T w w0) (hB : B ≤ w0.heap.size) : Tch B T w w1 := h0.trans (h.tch hB)
theorem tch_below {B : Nat} {T : List Nat} {w w0 w1 : World} (h : Below w0.heap.size w0 w1) (h0 : Tch B T w w0) (hB : B ≤ w0.heap.size) : Tch B T w w1 := h0.trans (Below.tch (h.mono hB))
theorem Tch.drew {B : Nat} {T : List Nat} {a w : World} (h : Tch B T a w) : Tch B T a w.drew := ⟨h.os, h.tape, h.output, h.size, h.block⟩
theorem Tch.drewN {B : Nat} {T : List Nat} {a w : World} (h : Tch B T a w) (k : Nat) : Tch B T a (w.drewN k) := h.trans (Below.tch (below_drewN (Below.refl B w) k))
theorem Tch.alloc {B : Nat} {T : List Nat} {a w : World} (h : Tch B T a w) (hB : B ≤ w.heap.size) (o : Obj) : Tch B T a (w.alloc o) := h.trans (Below.tch ((Below.refl B w).alloc hB o))
theorem Tch.setCell {B : Nat} {T : List Nat} {a w : World} (h : Tch B T a w) {p : Addr} (hp : B ≤ p.block) (u : Value) : Tch B T a (w.setCell p u) := h.trans (Below.tch ((Below.refl B w).setCell hp u))
theorem heap_setBlock_other (w : World) (b i : Nat) (o : Obj) (h : i ≠ b) : (setBlock w b o).heap[i]? = w.heap[i]? := by
  show (w.heap.setIfInBounds b o)[i]? = _
  rw [Array.getElem?_setIfInBounds_ne (fun e => h e.symm)]
theorem size_setBlock (w : World) (b : Nat) (o : Obj) : (setBlock w b o).heap.size = w.heap.size := by simp [setBlock]
theorem Tch.setBlock {B : Nat} {T : List Nat} {a w : World} (h : Tch B T a w) {m : Nat} (hm : m ∈ T) (o : Obj) : Tch B T a (setBlock w m o) :=
  h.trans ⟨rfl, rfl, rfl, by rw [size_setBlock]; exact Nat.le_refl _, fun i _ hn => heap_setBlock_other _ _ _ _ (fun e => hn (e ▸ hm))⟩
end
end Go.Proofs.Ytmpflnlajakibaa
