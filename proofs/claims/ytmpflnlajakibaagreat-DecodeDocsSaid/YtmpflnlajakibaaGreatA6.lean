/- The plain model of verify: no program here. Facts of the plain model of verify: heights are bounded. No program here. The plain model of verify and the budget. No program here. The plain model of verify and the maximal depth. No program here. The laws of the plain model of verify: budget and depth. No program here. -/
import Derived.Test.YtmpflnlajakibaaGreatAa
import Derived.Test.YtmpflnlajakibaaGreatA5
import Derived.Test.YtmpflnlajakibaaGreatWalk7
namespace Go.Proofs.YtmpflnlajakibaaGreat
set_option linter.unusedVariables false
set_option linter.unusedSimpArgs false
set_option linter.unusedSectionVars false
section
open Go.RowKit
/-- What target finds: the backward offset is in bounds, and the data starts before the limit. -/
def tgtB (L : List UInt8) (p q t k lim : Int) : Bool := decide (loadV L p q ≤ p) && decide (beginsV t k (p - loadV L p q) < lim)
abbrev Lead := Int × Int × Int
/-- The state of the check: steps, the data checked with its height, the keys counted. -/
structure VS where
  s : Int
  L : List (Lead × Int)
  C : List Int
/-- A result: a failure (steps, offset, error), or the state and a value. -/
abbrev VR (α : Type) := Except (Int × Int × Int) (VS × α)
def vknown (L : List (Lead × Int)) (x : Lead) : Option Int := (L.find? (fun y => y.1 == x)).map (·.2)
def stepM (bud m a : Int) (S : VS) : VR Unit := if S.s + m ≤ bud then .ok ({ S with s := S.s + m }, ()) else .error (S.s, a, 290)
def targetM (D : List UInt8) (p q t k lim : Int) (S : VS) : VR Int := if tgtB D p q t k lim then .ok (S, p - loadV D p q) else .error (S.s, p, 211)
def lessB : List UInt8 → List UInt8 → Bool
  | _, [] => false
  | [], _ :: _ => true
  | a :: l, b :: r => if a = b then lessB l r else decide (a.toNat < b.toNat)
def keyM (D : List UInt8) (bud p q k at_ : Int) (S : VS) : VR (List UInt8) :=
  if findE D p q 4 k true ≠ 0 then .error (S.s, at_, findE D p q 4 k true)
  else if at_ ∈ S.C then .ok (S, findS D p q 4 k true)
  else match stepM bud ((findS D p q 4 k true).length + 1) p S with
    | .error x => .error x
    | .ok (S', _) => .ok ({ S' with C := at_ :: S'.C }, findS D p q 4 k true)
/-- The width of the keys, the target of the reference to the keys. -/
def kwOf (D : List UInt8) (k from_ : Int) : Int := min (loadV D (from_ + k) k) 9
def keysRefM (D : List UInt8) (k from_ : Int) (S : VS) : VR Int :=
  if from_ < loadV D from_ k then .error (S.s, from_, 211)
  else if wideB (kwOf D k from_) = false then .error (S.s, from_ + k, 212)
  else targetM D from_ k 14 (kwOf D k from_) from_ S
/-- The key i of a map, then what comes after it. -/
def keysStep (D : List UInt8) (bud p q k : Int) (next : Int → List UInt8 → VS → VR Unit) (i : Int) (last : List UInt8) (S : VS) : VR Unit :=
  match stepM bud 1 (latP D p q 14 k i) S with
  | .error x => .error x
  | .ok (S1, _) => match targetM D (latP D p q 14 k i) (latQ D p q 14 k i) (latT D p q 14 k i) (latW D p q 14 k i) (lFrom D p q 14 k) S1 with
    | .error x => .error x
    | .ok (S2, tg) => match keyM D bud (latP D p q 14 k i) (latQ D p q 14 k i) (latW D p q 14 k i) tg S2 with
      | .error x => .error x
      | .ok (S3, s) => if 0 < i ∧ lessB last s = false then .error (S3.s, latP D p q 14 k i, 215) else next (i + 1) s S3
/-- The keys i, i + 1, .. of a map. -/
def keysLoop (D : List UInt8) (bud p q k : Int) : Nat → Int → List UInt8 → VS → VR Unit
  | 0 => fun _ _ S => .ok (S, ())
  | r + 1 => keysStep D bud p q k (keysLoop D bud p q k r)
def keysM (D : List UInt8) (bud k from_ many : Int) (S : VS) : VR Unit :=
  match keysRefM D k from_ S with
  | .error x => .error x
  | .ok (S1, at_) =>
    if lfindE D from_ k 14 (kwOf D k from_) ≠ 0 then .error (S1.s, at_, lfindE D from_ k 14 (kwOf D k from_))
    else if lCnt D from_ k 14 (kwOf D k from_) ≠ many then .error (S1.s, at_, 214)
    else match vknown S1.L (-1, at_, kwOf D k from_) with
      | some _ => .ok (S1, ())
      | none => match keysLoop D bud from_ k (kwOf D k from_) many.toNat 0 [] S1 with
        | .error x => .error x
        | .ok (S2, _) => .ok ({ S2 with L := ((-1, at_, kwOf D k from_), 1) :: S2.L }, ())
/-- The check of a reference: position, parent's width, type, width, limit, depth. -/
abbrev LookF := Int → Int → Int → Int → Int → Int → VS → VR Int
/-- The elements i, i + 1, .. of a vector. -/
def vecLoop (look : LookF) (D : List UInt8) (p q t k at_ deep : Int) : Nat → Int → Int → VS → VR Int
  | 0, _, high, S => .ok (S, high)
  | r + 1, i, high, S =>
    if latE D p q t k i ≠ 0 then .error (S.s, at_ + lCnt D p q t k * k + i, latE D p q t k i)
    else match look (latP D p q t k i) (latQ D p q t k i) (latT D p q t k i) (latW D p q t k i) (lFrom D p q t k) (deep + 1) S with
      | .error x => .error x
      | .ok (S1, h) => vecLoop look D p q t k at_ deep r (i + 1) (max high h) S1
def vecM (look : LookF) (D : List UInt8) (bud p q t k at_ deep : Int) (S : VS) : VR Int :=
  if lfindE D p q t k ≠ 0 then .error (S.s, at_, lfindE D p q t k)
  else match (if t = 9 then keysM D bud k (lFrom D p q t k) (lCnt D p q t k) S else .ok (S, ())) with
    | .error x => .error x
    | .ok (S1, _) => match vecLoop look D p q t k at_ deep (lCnt D p q t k).toNat 0 0 S1 with
      | .error x => .error x
      | .ok (S2, h) => .ok (S2, h + 1)
def partM (look : LookF) (D : List UInt8) (bud p q t k at_ deep : Int) (S : VS) : VR Int :=
  if t = 6 ∨ t = 7 then (if splaceE D p q t k ≠ 0 then .error (S.s, at_, splaceE D p q t k) else .ok (S, 1))
  else if t = 4 then (match keyM D bud p q k at_ S with | .error x => .error x | .ok (S', _) => .ok (S', 1))
  else if t = 5 ∨ t = 25 then (if findE D p q t k true ≠ 0 then .error (S.s, at_, findE D p q t k true) else .ok (S, 1))
  else vecM look D bud p q t k at_ deep S
def leadOf (t a k : Int) : Lead := (t, a, if t = 4 then 0 else k)
def lookM (D : List UInt8) (dp bud : Int) : Nat → LookF
  | 0 => fun _ _ _ _ _ _ S => .error (S.s, 0, -1)
  | f + 1 => fun p q t k lim deep S => match stepM bud 1 p S with
    | .error x => .error x
    | .ok (S1, _) => if dp < deep then .error (S1.s, p, 61) else if inlineB t then .ok (S1, 1)
      else match targetM D p q t k lim S1 with
        | .error x => .error x
        | .ok (S2, at_) => match vknown S2.L (leadOf t at_ k) with
          | some h => if deep + h - 1 ≤ dp then .ok (S2, h) else .error (S2.s, p, 61)
          | none => match partM (lookM D dp bud f) D bud p q t k at_ deep S2 with
            | .error x => .error x
            | .ok (S3, h) => .ok ({ S3 with L := (leadOf t at_ k, h) :: S3.L }, h)
def lastD (D : List UInt8) (i : Nat) : UInt8 := D.getD (D.length - i) 0
/-- The report (steps, offset, height) and the error. -/
def checkM (D : List UInt8) (dp budget : Int) : (Int × Int × Int) × Int :=
  if rootE D.length (lastD D 1) (lastD D 2) = 20 then ((0, D.length - 2, 0), 20)
  else if rootE D.length (lastD D 1) (lastD D 2) ≠ 0 then ((0, 0, 0), rootE D.length (lastD D 1) (lastD D 2))
  else match lookM D dp (max budget 0) (D.length + 1) (rootP D.length (lastD D 1) (lastD D 2)) (rootQ D.length (lastD D 1) (lastD D 2)) (rootT D.length (lastD D 1) (lastD D 2)) (rootW D.length (lastD D 1) (lastD D 2)) (rootP D.length (lastD D 1) (lastD D 2)) 1 ⟨0, [], []⟩ with
    | .error (s, a, e) => ((s, a, 0), e)
    | .ok (S, h) => ((S.s, 0, h), 0)
end
section
open Go.RowKit
/-- Heights are positive, and bounded by the start of the data. -/
def KInv (L : List (Lead × Int)) : Prop := ∀ t a k h, ((t, a, k), h) ∈ L → 1 ≤ h ∧ h ≤ beginsV t k a + 30
theorem KInv.cons {L : List (Lead × Int)} (h : KInv L) {t a k x : Int} (h1 : 1 ≤ x) (h2 : x ≤ beginsV t k a + 30) : KInv (((t, a, k), x) :: L) := by
  intro t' a' k' x' hm
  rcases List.mem_cons.1 hm with e | hm
  · cases e; exact ⟨h1, h2⟩
  · exact h _ _ _ _ hm
def LGood (look : LookF) : Prop := ∀ p q t k lim deep S S' h, 0 ≤ lim → k ≤ 8 → KInv S.L → look p q t k lim deep S = .ok (S', h) → KInv S'.L ∧ 1 ≤ h ∧ h ≤ lim + 29
theorem lFrom_nonneg (L : List UInt8) (p q t k : Int) : 0 ≤ lFrom L p q t k := by
  by_cases h : lfindE L p q t k = 0
  · exact (lfindE_zero h).2.2.1
  · simp [lFrom, h]
end
section
open Go.RowKit
def vb {α β : Type} (r : VR α) (g : VS → α → VR β) : VR β := match r with
  | .error x => .error x
  | .ok (S, v) => g S v
/-- The law of a check under a budget, from s0 steps on. -/
def BA {α : Type} (s0 : Int) (F : Int → VR α) : Prop := ∀ B, s0 ≤ B →
  (∀ S v, F B = .ok (S, v) → s0 ≤ S.s ∧ S.s ≤ B ∧ (∀ B', S.s ≤ B' → F B' = .ok (S, v)) ∧ (∀ B', s0 ≤ B' → B' < S.s → ∃ s a, F B' = .error (s, a, 290) ∧ s0 ≤ s ∧ s ≤ B')) ∧
  (∀ s a e, F B = .error (s, a, e) → s0 ≤ s ∧ s ≤ B ∧
    (e ≠ 290 → (∀ B', s ≤ B' → F B' = .error (s, a, e)) ∧ (∀ B', s0 ≤ B' → B' < s → ∃ s' a', F B' = .error (s', a', 290) ∧ s0 ≤ s' ∧ s' ≤ B')) ∧
    (e = 290 → ∀ B', B + 600 ≤ B' → (∃ S v, F B' = .ok (S, v) ∧ s < S.s) ∨ ∃ s' a' e', F B' = .error (s', a', e') ∧ s < s'))
theorem BA.ok {α : Type} {S : VS} {v : α} : BA S.s (fun _ => .ok (S, v)) := by
  intro B hB
  refine ⟨fun S' v' h => ?_, fun s a e h => by simp at h⟩
  simp only [Except.ok.injEq, Prod.mk.injEq] at h
  obtain ⟨rfl, rfl⟩ := h
  exact ⟨Int.le_refl _, hB, fun _ _ => rfl, fun B' h' h'' => by omega⟩
theorem BA.error {α : Type} {s a e : Int} (he : e ≠ 290) : BA (α := α) s (fun _ => .error (s, a, e)) := by
  intro B hB
  refine ⟨fun S' v' h => by simp at h, fun s' a' e' h => ?_⟩
  simp only [Except.error.injEq, Prod.mk.injEq] at h
  obtain ⟨rfl, rfl, rfl⟩ := h
  exact ⟨Int.le_refl _, hB, fun _ => ⟨fun _ _ => rfl, fun B' h' h'' => by omega⟩, fun h' => absurd h' he⟩
theorem BA.step {S : VS} {m a : Int} (h1 : 0 < m) (h2 : m ≤ 600) : BA S.s (fun B => stepM B m a S) := by
  intro B hB
  simp only [stepM]
  refine ⟨fun S' v' h => ?_, fun s' a' e' h => ?_⟩
  · split at h
    · cases h
      exact ⟨by show S.s ≤ S.s + m; omega, by assumption, fun B' h' => by rw [if_pos h'], fun B' h' h'' => ⟨S.s, a, by rw [if_neg (by have : B' < S.s + m := h''; omega)], by omega, h'⟩⟩
    · cases h
  · split at h
    · cases h
    · simp only [Except.error.injEq, Prod.mk.injEq] at h
      obtain ⟨rfl, rfl, rfl⟩ := h
      refine ⟨Int.le_refl _, hB, fun h' => absurd rfl h', fun _ B' h' => .inl ⟨{ S with s := S.s + m }, (), by rw [if_pos (by omega)], by show S.s < S.s + m; omega⟩⟩
theorem BA.congr {α : Type} {s0 : Int} {F G : Int → VR α} (h : BA s0 G) (he : ∀ B, F B = G B) : BA s0 F := by rw [show F = G from funext he]; exact h
theorem findS_le (L : List UInt8) (p q t k : Int) (m : Bool) : (findS L p q t k m).length ≤ L.length := by
  unfold findS window
  split
  · simp only [List.length_take, List.length_drop]; omega
  · simp
section
variable {D : List UInt8} (hD : D.length ≤ 599)
include hD
end
end
section
open Go.RowKit
def DGood (dp' : Int) (look look' : LookF) : Prop := ∀ p q t k lim deep S S' h, 0 ≤ lim → k ≤ 8 → KInv S.L → look p q t k lim deep S = .ok (S', h) →
  (deep + h - 1 ≤ dp' → look' p q t k lim deep S = .ok (S', h)) ∧ (¬ deep + h - 1 ≤ dp' → ∃ s a, look' p q t k lim deep S = .error (s, a, 61))
end
section
open Go.RowKit
def rootOf (D : List UInt8) : Int := rootE D.length (lastD D 1) (lastD D 2)
def lkM (D : List UInt8) (dp bud : Int) : VR Int :=
  lookM D dp bud (D.length + 1) (rootP D.length (lastD D 1) (lastD D 2)) (rootQ D.length (lastD D 1) (lastD D 2)) (rootT D.length (lastD D 1) (lastD D 2)) (rootW D.length (lastD D 1) (lastD D 2)) (rootP D.length (lastD D 1) (lastD D 2)) 1 ⟨0, [], []⟩
def finM (r : VR Int) : (Int × Int × Int) × Int := match r with
  | .error (s, a, e) => ((s, a, 0), e)
  | .ok (S, h) => ((S.s, 0, h), 0)
/-- A failure bears an error. -/
def NE {α : Type} (r : VR α) : Prop := ∀ x, r = .error x → x.2.2 ≠ 0
theorem NE.ok {α : Type} (y : VS × α) : NE (.ok y) := fun x h => by cases h
section
variable (D : List UInt8) (bud : Int)
end
end
section
open Go.RowKit
open Go.ChangeMaps (setBlock)
/-- Of the blocks that were there only those in S may have changed. -/
structure Touch (S : List Nat) (w w' : World) : Prop where
  os : w'.os = w.os
  tape : w'.tape = w.tape
  output : w'.output = w.output
  size : w.heap.size ≤ w'.heap.size
  block : ∀ i, i < w.heap.size → i ∉ S → w'.heap[i]? = w.heap[i]?
theorem Touch.refl (S : List Nat) (w : World) : Touch S w w := ⟨rfl, rfl, rfl, Nat.le_refl _, fun _ _ _ => rfl⟩
theorem Touch.trans {S : List Nat} {a b c : World} (h : Touch S a b) (k : Touch S b c) : Touch S a c :=
  ⟨k.os.trans h.os, k.tape.trans h.tape, k.output.trans h.output, Nat.le_trans h.size k.size, fun i hi hs => (k.block i (Nat.lt_of_lt_of_le hi h.size) hs).trans (h.block i hi hs)⟩
theorem Touch.quiet {S : List Nat} {w w' : World} (h : Below w.heap.size w w') : Touch S w w' := ⟨h.os, h.tape, h.output, h.size, fun i hi _ => h.block i hi⟩
theorem Touch.mono {S S' : List Nat} {w w' : World} (h : Touch S w w') (hs : ∀ x ∈ S, x ∈ S') : Touch S' w w' := ⟨h.os, h.tape, h.output, h.size, fun i hi hn => h.block i hi fun hx => hn (hs i hx)⟩
theorem Touch.setCell (w : World) (b o : Nat) (v : Value) : Touch [b] w (w.setCell ⟨b, o, none⟩ v) :=
  ⟨rfl, rfl, rfl, by simp, fun i _ hs => heap_setCell_other _ _ _ _ (by simpa using hs)⟩
theorem Touch.drew (w : World) (S : List Nat) : Touch S w w.drew := ⟨rfl, rfl, rfl, Nat.le_refl _, fun _ _ _ => rfl⟩
def tellE (e x : Int) : Int := if e = 0 then x else e
def tellA (e at_ a : Int) : Int := if e = 0 then a else at_
theorem Doc.touch {w w' : World} {b o n cap : Nat} {L : List UInt8} (D : Doc w b o n cap L) {T : List Nat} (h : Touch T w w') (hb : b ∉ T) : Doc w' b o n cap L :=
  ⟨D.len, D.le, D.max, D.sm, fun i hi => by
    rw [World.cell?_of_block (w := w) (w' := w') (a := ⟨b, o + i, none⟩) (h.block b D.lt hb)]; exact D.at_ i hi, Nat.lt_of_lt_of_le D.lt h.size⟩
/-- Of the blocks below B only those in T may have changed. -/
structure Tch (B : Nat) (T : List Nat) (w w' : World) : Prop where
  os : w'.os = w.os
  tape : w'.tape = w.tape
  output : w'.output = w.output
  size : w.heap.size ≤ w'.heap.size
  block : ∀ i, i < B → i ∉ T → w'.heap[i]? = w.heap[i]?
theorem Tch.refl (B : Nat) (T : List Nat) (w : World) : Tch B T w w := ⟨rfl, rfl, rfl, Nat.le_refl _, fun _ _ _ => rfl⟩
theorem Tch.trans {B : Nat} {T : List Nat} {a b c : World} (h : Tch B T a b) (k : Tch B T b c) : Tch B T a c :=
  ⟨k.os.trans h.os, k.tape.trans h.tape, k.output.trans h.output, Nat.le_trans h.size k.size, fun i hi hn => (k.block i hi hn).trans (h.block i hi hn)⟩
theorem Touch.tch {B : Nat} {T : List Nat} {w w' : World} (h : Touch T w w') (hB : B ≤ w.heap.size) : Tch B T w w' := ⟨h.os, h.tape, h.output, h.size, fun i hi hn => h.block i (Nat.lt_of_lt_of_le hi hB) hn⟩
theorem Tch.touch {T : List Nat} {w w' : World} (h : Tch w.heap.size T w w') : Touch T w w' := ⟨h.os, h.tape, h.output, h.size, h.block⟩
theorem Below.tch {B : Nat} {T : List Nat} {w w' : World} (h : Below B w w') : Tch B T w w' := ⟨h.os, h.tape, h.output, h.size, fun i hi _ => h.block i hi⟩
theorem tch_call {B : Nat} {T : List Nat} {w w0 w1 : World} (h : Touch T w0 w1) (h0 : Tch B T w w0) (hB : B ≤ w0.heap.size) : Tch B T w w1 := h0.trans (h.tch hB)
theorem tch_below {B : Nat} {T : List Nat} {w w0 w1 : World} (h : Below w0.heap.size w0 w1) (h0 : Tch B T w w0) (hB : B ≤ w0.heap.size) : Tch B T w w1 := h0.trans (Below.tch (h.mono hB))
theorem Tch.drew {B : Nat} {T : List Nat} {a w : World} (h : Tch B T a w) : Tch B T a w.drew := ⟨h.os, h.tape, h.output, h.size, h.block⟩
theorem Tch.drewN {B : Nat} {T : List Nat} {a w : World} (h : Tch B T a w) (k : Nat) : Tch B T a (w.drewN k) := h.trans (Below.tch (below_drewN (Below.refl B w) k))
theorem Tch.alloc {B : Nat} {T : List Nat} {a w : World} (h : Tch B T a w) (hB : B ≤ w.heap.size) (o : Obj) : Tch B T a (w.alloc o) := h.trans (Below.tch ((Below.refl B w).alloc hB o))
theorem Tch.setCell {B : Nat} {T : List Nat} {a w : World} (h : Tch B T a w) {p : Addr} (hp : B ≤ p.block) (u : Value) : Tch B T a (w.setCell p u) := h.trans (Below.tch ((Below.refl B w).setCell hp u))
theorem heap_setBlock_other (w : World) (b i : Nat) (o : Obj) (h : i ≠ b) : (setBlock w b o).heap[i]? = w.heap[i]? := by
  show (w.heap.setIfInBounds b o)[i]? = _
  rw [Array.getElem?_setIfInBounds_ne (fun e => h e.symm)]
theorem size_setBlock (w : World) (b : Nat) (o : Obj) : (setBlock w b o).heap.size = w.heap.size := by simp [setBlock]
theorem Tch.setBlock {B : Nat} {T : List Nat} {a w : World} (h : Tch B T a w) {m : Nat} (hm : m ∈ T) (o : Obj) : Tch B T a (setBlock w m o) :=
  h.trans ⟨rfl, rfl, rfl, by rw [size_setBlock]; exact Nat.le_refl _, fun i _ hn => heap_setBlock_other _ _ _ _ (fun e => hn (e ▸ hm))⟩
end
end Go.Proofs.YtmpflnlajakibaaGreat
