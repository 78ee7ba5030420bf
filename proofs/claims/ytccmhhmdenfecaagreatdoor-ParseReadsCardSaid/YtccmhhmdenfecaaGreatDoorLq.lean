/- Plain laws of lex: a token is determined by its own bytes; tokens do not overlap. No program here. -/
import Derived.Test.YtccmhhmdenfecaaGreatDoorLp
namespace Go.Proofs.YtccmhhmdenfecaaGreatDoor
set_option linter.unusedVariables false
set_option linter.unusedSimpArgs false
/-- The tokens of s from an offset on: they do not overlap, only white space lies between them, and their bytes alone yield them. -/
def Covers (s : List UInt8) : Nat → List Tok → Prop
  | e, [] => e ≤ s.length ∧ ∀ c ∈ s.drop e, blankB c = true
  | e, t :: ts => ∃ (b k : Nat), e ≤ b ∧ 1 ≤ k ∧ b + k ≤ s.length ∧ (∀ c ∈ (s.drop e).take (b - e), blankB c = true) ∧ 1 ≤ t.kind ∧ t.kind ≤ 12 ∧ t.from_ = b ∧ t.to_ = b + k ∧
      nextM (32 :: 10 :: ((s.drop b).take k)) 0 = (⟨t.kind, 2, 2 + k, t.n, t.u, t.text⟩, 0) ∧ Covers s (b + k) ts
end Go.Proofs.YtccmhhmdenfecaaGreatDoor
