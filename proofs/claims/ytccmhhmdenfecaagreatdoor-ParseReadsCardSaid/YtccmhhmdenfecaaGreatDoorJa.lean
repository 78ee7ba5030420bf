/- The plain model of parse.Parse. No walk here. -/
import Derived.Test.YtccmhhmdenfecaaGreatDoorLq
import Derived.Test.YtccmhhmdenfecaaGreatDoorT0
namespace Go.Proofs.YtccmhhmdenfecaaGreatDoor
set_option linter.unusedVariables false
set_option linter.unusedSimpArgs false
/-- An error with its offset, or a result. -/
abbrev PE (α : Type) := Except (Int × Int) α
/-- The token behind a token. -/
def nextP (s : List UInt8) (t : Tok) : PE Tok := if (nextM s t.to_).2 ≠ 0 then .error ((nextM s t.to_).1.from_, (nextM s t.to_).2) else .ok (nextM s t.to_).1
def bgB (k : Int) : Bool := decide (7 ≤ k) && decide (k ≤ 12) || decide (k = 3) || decide (k = 1)
def leafP (t : Tok) : DT := if t.kind = 7 then .mk 1 0 0 [] [] [] else if t.kind = 8 then .mk 2 0 0 [] [] [] else if t.kind = 9 then .mk 2 1 0 [] [] [] else if t.kind = 10 then .mk 3 t.n 0 [] [] [] else if t.kind = 11 then .mk 4 0 t.u [] [] [] else .mk 6 0 0 t.text [] []
/-- The closing token of a list, of a map. -/
def lastP (mp : Bool) : Int := if mp = true then 2 else 4
/-- What stands ahead of an element's value: nothing in a list; in a map the key and the colon. -/
def headP (s : List UInt8) (mp : Bool) (ks : List (List UInt8)) (t : Tok) : PE (List (List UInt8) × Tok) :=
  if mp = false then .ok (ks, t)
  else if t.kind ≠ 12 then .error (t.from_, 100)
  else if (0 : UInt8) ∈ t.text then .error (t.from_, 70)
  else if t.text ∈ ks then .error (t.from_, 71)
  else match nextP s t with
    | .error x => .error x
    | .ok t1 => if t1.kind ≠ 6 then .error (t1.from_, 100) else match nextP s t1 with
      | .error x => .error x
      | .ok t2 => .ok (ks ++ [t.text], t2)
abbrev VR := PE (DT × Tok × Int)
abbrev ER := PE (List (List UInt8) × List DT × Tok × Int)
/-- Behind the last element: the closing token is read. -/
def shutP (s : List UInt8) (ks : List (List UInt8)) (acc : List DT) (t : Tok) (many : Int) : ER :=
  match nextP s t with
  | .error x => .error x
  | .ok t1 => .ok (ks, acc, t1, many)
mutual
def valP (s : List UInt8) : Nat → Int → Tok → Int → VR
  | 0, _, _, _ => .error (0, 0)
  | g + 1, deep, t, many =>
    if bgB t.kind = false then .error (t.from_, 100)
    else if 4096 ≤ many then .error (t.from_, 5)
    else if 64 ≤ deep then .error (t.from_, 61)
    else match nextP s t with
      | .error x => .error x
      | .ok t1 =>
        if t.kind = 3 ∨ t.kind = 1 then
          match eachP s g (decide (t.kind = 1)) (deep + 1) t1 (many + 1) [] [] with
          | .error x => .error x
          | .ok (ks, l, t2, m) => .ok (.mk (if t.kind = 1 then 17 else 10) 0 0 [] ks l, t2, m)
        else .ok (leafP t, t1, many + 1)
def eachP (s : List UInt8) : Nat → Bool → Int → Tok → Int → List (List UInt8) → List DT → ER
  | 0, _, _, _, _, _, _ => .error (0, 0)
  | g + 1, mp, deep, t, many, ks, acc =>
    if t.kind = lastP mp then shutP s ks acc t many
    else match headP s mp ks t with
      | .error x => .error x
      | .ok (ks1, t1) => match valP s g deep t1 many with
        | .error x => .error x
        | .ok (T, t2, m) =>
          if t2.kind = lastP mp then shutP s ks1 (acc ++ [T]) t2 m
          else if t2.kind ≠ 5 then .error (t2.from_, 100)
          else if (nextM s t2.to_).2 = 0 ∧ (nextM s t2.to_).1.kind = lastP mp then .error ((nextM s t2.to_).1.from_, 100)
          else match nextP s t2 with
            | .error x => .error x
            | .ok t3 => eachP s g mp deep t3 m ks1 (acc ++ [T])
end
def zeroD : DT := .mk 0 0 0 [] [] []
def tok0 : Tok := ⟨0, 0, 0, 0, 0, []⟩
/-- The tree, the offset of an error, the error. -/
def parM (s : List UInt8) : DT × Int × Int :=
  if 1048576 < s.length then (zeroD, 0, 5)
  else match nextP s tok0 with
    | .error x => (zeroD, x.1, x.2)
    | .ok t => match valP s 8200 0 t 0 with
      | .error x => (zeroD, x.1, x.2)
      | .ok (T, t1, _) => if t1.kind ≠ 0 then (zeroD, t1.from_, 100) else (T, 0, 0)
/-- A value's result counts on. -/
theorem val_more (s : List UInt8) : ∀ (g : Nat), (∀ deep t many T t1 m, valP s g deep t many = .ok (T, t1, m) → many < m ∧ m ≤ 4096) ∧
    (∀ mp deep t many ks acc ks1 l t1 m, many ≤ 4096 → eachP s g mp deep t many ks acc = .ok (ks1, l, t1, m) → many ≤ m ∧ m ≤ 4096) := by
  intro g
  induction g with
  | zero => exact ⟨fun deep t many T t1 m h => by simp [valP] at h, fun mp deep t many ks acc ks1 l t1 m _ h => by simp [eachP] at h⟩
  | succ g ih =>
    have hshut : ∀ ks acc t many ks1 l t1 m, shutP s ks acc t many = .ok (ks1, l, t1, m) → many = m := by
      intro ks acc t many ks1 l t1 m h
      unfold shutP at h
      split at h
      · cases h
      · cases h; rfl
    refine ⟨fun deep t many T t1 m h => ?_, fun mp deep t many ks acc ks1 l t1 m hm h => ?_⟩
    · rw [valP] at h
      split at h
      · cases h
      split at h
      · cases h
      split at h
      · cases h
      rename_i _ h4 _
      split at h
      · cases h
      split at h
      · split at h
        · cases h
        · rename_i hx
          cases h
          have := ih.2 _ _ _ _ _ _ _ _ _ _ (by omega) hx
          omega
      · cases h; omega
    · rw [eachP] at h
      split at h
      · have := hshut _ _ _ _ _ _ _ _ h; omega
      split at h
      · cases h
      split at h
      · cases h
      rename_i hv
      have h1 := ih.1 _ _ _ _ _ _ hv
      split at h
      · have := hshut _ _ _ _ _ _ _ _ h; omega
      split at h
      · cases h
      split at h
      · cases h
      split at h
      · cases h
      · have := ih.2 _ _ _ _ _ _ _ _ _ _ (by omega) h
        omega
end Go.Proofs.YtccmhhmdenfecaaGreatDoor
