/-
  No cell of these rows narrows 'for every input' (looked for: loops, veiled, ifaces, maps, wideKeys, modest, calm, conditions, laid).
  DERIVED. THE GIVEN ROWS OF THIS SEAT. 8 by the template 'for every input the law returns true; each argument reads behind the call as it read before'; 0 by the template 'total and deterministic' (their statements: YtmpflnlajakibaaTotals.lean).
  GIVEN WITH THE SEED: the statements are not yours to turn. If you find one false, say at which input.
  Laid BY PROGRAM, IN A SANDBOX (cutbox-rows.mjs): the forced cells as the released guide's own fill.sh prints them over the translation ae441f08c449caeb… (all of the seat's roots in one cut). By AI agents, Wed Nov 11 2026. No macro, syntax, notation, axiom, sorry.
-/
import Derived.Test.YtmpflnlajakibaaChecked
import GoSem.Claim
import GoSem.ClaimJoined
import GoSem.ClaimMapViews
import Derived.JoinedTies
import Derived.KernelRfl
namespace Go.Proofs.Ytmpflnlajakibaa
/- THE CELL 'sum', in the pinned program and in every row, IS THE sha256 OF THE DUMP (.gsa) THAT YtmpflnlajakibaaProg.lean LOADS. Nothing in Lean hashes anything: it is a label: what it is worth is what the hold of that sum in a sandbox is worth. -/
noncomputable def Try.pinned : Pinned := { name := "ytmpflnlajakibaa", sum := "ae441f08c449caeb35b4eacba30723b6ed8024ba94d05ec11064985e3e726d31", checked := Try.checked }
namespace Rows
def none {H : Type} : Left H := { results := [], args := [] }

/-- 'accordionlaw29.VerifyTells': WHATEVER THE INPUT: true; the input reads as it did. -/
def verifyTellsSpec : ChangeSpec := { name := "verifyTells", fn := fun _ => fun
  | [d1, d2, d3] => { results := [.lit (.bool true)], args := [d1, d2, d3] }
  | _ => none }
def verifyTellsRow : OpenClaim := { program := "ytmpflnlajakibaa", sum := "ae441f08c449caeb35b4eacba30723b6ed8024ba94d05ec11064985e3e726d31", func := "accordion/accordionlaw29.VerifyTells", spec := "verifyTells", inPlace := ["internal/bytealg.IndexByte"], unfollowed := true, recurses := true, plainKeys := false, apart := false }
def VerifyTellsSaid : Prop := verifyTellsRow.holds Try.pinned (OpenSpec.ofChange verifyTellsSpec)

/-- ITS FALSE NEIGHBOUR: 'it returns false'. Refute it at one input. -/
def verifyTellsWrong : ChangeSpec := { name := "verifyTells", fn := fun _ => fun
  | [d1, d2, d3] => { results := [.lit (.bool false)], args := [d1, d2, d3] }
  | _ => none }
def VerifyTellsWrongFalsely : Prop := verifyTellsRow.holds Try.pinned (OpenSpec.ofChange verifyTellsWrong)

/-- 'accordionlaw29.VerifyBudget': WHATEVER THE INPUT: true; the input reads as it did. -/
def verifyBudgetSpec : ChangeSpec := { name := "verifyBudget", fn := fun _ => fun
  | [d1, d2, d3] => { results := [.lit (.bool true)], args := [d1, d2, d3] }
  | _ => none }
def verifyBudgetRow : OpenClaim := { program := "ytmpflnlajakibaa", sum := "ae441f08c449caeb35b4eacba30723b6ed8024ba94d05ec11064985e3e726d31", func := "accordion/accordionlaw29.VerifyBudget", spec := "verifyBudget", inPlace := ["internal/bytealg.IndexByte"], unfollowed := true, recurses := true, plainKeys := false, apart := false }
def VerifyBudgetSaid : Prop := verifyBudgetRow.holds Try.pinned (OpenSpec.ofChange verifyBudgetSpec)

/-- ITS FALSE NEIGHBOUR: 'it returns false'. Refute it at one input. -/
def verifyBudgetWrong : ChangeSpec := { name := "verifyBudget", fn := fun _ => fun
  | [d1, d2, d3] => { results := [.lit (.bool false)], args := [d1, d2, d3] }
  | _ => none }
def VerifyBudgetWrongFalsely : Prop := verifyBudgetRow.holds Try.pinned (OpenSpec.ofChange verifyBudgetWrong)

/-- 'accordionlaw29.VerifyShared': WHATEVER THE INPUT: true; the input reads as it did. -/
def verifySharedSpec : ChangeSpec := { name := "verifyShared", fn := fun _ => fun
  | [d1, d2] => { results := [.lit (.bool true)], args := [d1, d2] }
  | _ => none }
def verifySharedRow : OpenClaim := { program := "ytmpflnlajakibaa", sum := "ae441f08c449caeb35b4eacba30723b6ed8024ba94d05ec11064985e3e726d31", func := "accordion/accordionlaw29.VerifyShared", spec := "verifyShared", inPlace := ["internal/bytealg.IndexByte"], unfollowed := true, recurses := true, plainKeys := false, apart := false }
def VerifySharedSaid : Prop := verifySharedRow.holds Try.pinned (OpenSpec.ofChange verifySharedSpec)

/-- ITS FALSE NEIGHBOUR: 'it returns false'. Refute it at one input. -/
def verifySharedWrong : ChangeSpec := { name := "verifyShared", fn := fun _ => fun
  | [d1, d2] => { results := [.lit (.bool false)], args := [d1, d2] }
  | _ => none }
def VerifySharedWrongFalsely : Prop := verifySharedRow.holds Try.pinned (OpenSpec.ofChange verifySharedWrong)

/-- 'accordionlaw29.VerifyDeep': WHATEVER THE INPUT: true; the input reads as it did. -/
def verifyDeepSpec : ChangeSpec := { name := "verifyDeep", fn := fun _ => fun
  | [d1, d2] => { results := [.lit (.bool true)], args := [d1, d2] }
  | _ => none }
def verifyDeepRow : OpenClaim := { program := "ytmpflnlajakibaa", sum := "ae441f08c449caeb35b4eacba30723b6ed8024ba94d05ec11064985e3e726d31", func := "accordion/accordionlaw29.VerifyDeep", spec := "verifyDeep", inPlace := ["internal/bytealg.IndexByte"], unfollowed := true, recurses := true, plainKeys := false, apart := false }
def VerifyDeepSaid : Prop := verifyDeepRow.holds Try.pinned (OpenSpec.ofChange verifyDeepSpec)

/-- ITS FALSE NEIGHBOUR: 'it returns false'. Refute it at one input. -/
def verifyDeepWrong : ChangeSpec := { name := "verifyDeep", fn := fun _ => fun
  | [d1, d2] => { results := [.lit (.bool false)], args := [d1, d2] }
  | _ => none }
def VerifyDeepWrongFalsely : Prop := verifyDeepRow.holds Try.pinned (OpenSpec.ofChange verifyDeepWrong)

/-- 'accordionlaw29.VerifyKnown': WHATEVER THE INPUT: true; the input reads as it did. -/
def verifyKnownSpec : ChangeSpec := { name := "verifyKnown", fn := fun _ => fun
  | [] => { results := [.lit (.bool true)], args := [] }
  | _ => none }
def verifyKnownRow : OpenClaim := { program := "ytmpflnlajakibaa", sum := "ae441f08c449caeb35b4eacba30723b6ed8024ba94d05ec11064985e3e726d31", func := "accordion/accordionlaw29.VerifyKnown", spec := "verifyKnown", inPlace := ["internal/bytealg.IndexByte"], unfollowed := true, recurses := true, plainKeys := false, apart := false }
def VerifyKnownSaid : Prop := verifyKnownRow.holds Try.pinned (OpenSpec.ofChange verifyKnownSpec)

/-- ITS FALSE NEIGHBOUR: 'it returns false'. Refute it at one input. -/
def verifyKnownWrong : ChangeSpec := { name := "verifyKnown", fn := fun _ => fun
  | [] => { results := [.lit (.bool false)], args := [] }
  | _ => none }
def VerifyKnownWrongFalsely : Prop := verifyKnownRow.holds Try.pinned (OpenSpec.ofChange verifyKnownWrong)

/-- 'accordionlaw26.DecodeParts': WHATEVER THE INPUT: true; the input reads as it did. -/
def decodePartsSpec : ChangeSpec := { name := "decodeParts", fn := fun _ => fun
  | [d1, d2, d3] => { results := [.lit (.bool true)], args := [d1, d2, d3] }
  | _ => none }
def decodePartsRow : OpenClaim := { program := "ytmpflnlajakibaa", sum := "ae441f08c449caeb35b4eacba30723b6ed8024ba94d05ec11064985e3e726d31", func := "accordion/accordionlaw26.DecodeParts", spec := "decodeParts", inPlace := ["internal/bytealg.IndexByte"], unfollowed := true, recurses := true, plainKeys := false, apart := false }
def DecodePartsSaid : Prop := decodePartsRow.holds Try.pinned (OpenSpec.ofChange decodePartsSpec)

/-- ITS FALSE NEIGHBOUR: 'it returns false'. Refute it at one input. -/
def decodePartsWrong : ChangeSpec := { name := "decodeParts", fn := fun _ => fun
  | [d1, d2, d3] => { results := [.lit (.bool false)], args := [d1, d2, d3] }
  | _ => none }
def DecodePartsWrongFalsely : Prop := decodePartsRow.holds Try.pinned (OpenSpec.ofChange decodePartsWrong)

/-- 'accordionlaw26.DecodeFuel': WHATEVER THE INPUT: true; the input reads as it did. -/
def decodeFuelSpec : ChangeSpec := { name := "decodeFuel", fn := fun _ => fun
  | [d1, d2, d3] => { results := [.lit (.bool true)], args := [d1, d2, d3] }
  | _ => none }
def decodeFuelRow : OpenClaim := { program := "ytmpflnlajakibaa", sum := "ae441f08c449caeb35b4eacba30723b6ed8024ba94d05ec11064985e3e726d31", func := "accordion/accordionlaw26.DecodeFuel", spec := "decodeFuel", inPlace := ["internal/bytealg.IndexByte"], unfollowed := true, recurses := true, plainKeys := false, apart := false }
def DecodeFuelSaid : Prop := decodeFuelRow.holds Try.pinned (OpenSpec.ofChange decodeFuelSpec)

/-- ITS FALSE NEIGHBOUR: 'it returns false'. Refute it at one input. -/
def decodeFuelWrong : ChangeSpec := { name := "decodeFuel", fn := fun _ => fun
  | [d1, d2, d3] => { results := [.lit (.bool false)], args := [d1, d2, d3] }
  | _ => none }
def DecodeFuelWrongFalsely : Prop := decodeFuelRow.holds Try.pinned (OpenSpec.ofChange decodeFuelWrong)

/-- 'accordionlaw29.VerifyWalk': WHATEVER THE INPUT: true; the input reads as it did. -/
def verifyWalkSpec : ChangeSpec := { name := "verifyWalk", fn := fun _ => fun
  | [d] => { results := [.lit (.bool true)], args := [d] }
  | _ => none }
def verifyWalkRow : OpenClaim := { program := "ytmpflnlajakibaa", sum := "ae441f08c449caeb35b4eacba30723b6ed8024ba94d05ec11064985e3e726d31", func := "accordion/accordionlaw29.VerifyWalk", spec := "verifyWalk", inPlace := ["internal/bytealg.IndexByte"], unfollowed := true, recurses := true, plainKeys := false, apart := false }
def VerifyWalkSaid : Prop := verifyWalkRow.holds Try.pinned (OpenSpec.ofChange verifyWalkSpec)

/-- ITS FALSE NEIGHBOUR: 'it returns false'. Refute it at one input. -/
def verifyWalkWrong : ChangeSpec := { name := "verifyWalk", fn := fun _ => fun
  | [d] => { results := [.lit (.bool false)], args := [d] }
  | _ => none }
def VerifyWalkWrongFalsely : Prop := verifyWalkRow.holds Try.pinned (OpenSpec.ofChange verifyWalkWrong)

/- THE SECOND FORM. 'bulk': how many values and letters a reading holds, each counted each time it is reached (what is shared counts as often as it is met; a slice's spare places count too). A statement '..UptoSaid' is the law's where the arguments, and the package variables that the reading takes, are together of bulk at most 1048576: NARROWER than '..Said'. Prove '..Said' where nothing that the law and all that it calls make is longer than what came in: it says more and counts as full. Else prove '..UptoSaid'. A law counts once. -/
mutual
def uptoBulk {H : Type} : DataW H → Nat
  | .lit (.string bytes) => bytes.length + 1
  | .lit _ => 1
  | .nil => 1
  | .ptr d => uptoBulk d + 1
  | .slice elems spare => uptoBulkAll elems + uptoBulkAll spare + 1
  | .agg parts => uptoBulkAll parts + 1
  | .iface _ d => uptoBulk d + 1
  | .map entries => uptoBulkEntries entries + 1
  | .held _ => 1
def uptoBulkAll {H : Type} : List (DataW H) → Nat
  | [] => 0
  | d :: r => uptoBulk d + uptoBulkAll r
def uptoBulkEntries {H : Type} : List (Lit × DataW H) → Nat
  | [] => 0
  | x :: r => uptoBulkEntry x + uptoBulkEntries r
def uptoBulkEntry {H : Type} : Lit × DataW H → Nat
  | (.string bytes, d) => bytes.length + uptoBulk d + 1
  | (_, d) => uptoBulk d + 1
 end
def uptoSmall : (H : Type) → List (DataW H) → Bool := fun _ ds => decide (uptoBulkAll ds ≤ 1048576)
def OpenSpec.upto (s : _root_.Go.ChangeSpec) : _root_.Go.OpenSpec := { _root_.Go.OpenSpec.ofChange s with cond := some uptoSmall }

/-- 'accordionlaw29.VerifyTells', WHERE WHAT IT READS IS OF BULK AT MOST 1048576: true; the input reads as it did. -/
def verifyTellsUptoRow : OpenClaim := { program := "ytmpflnlajakibaa", sum := "ae441f08c449caeb35b4eacba30723b6ed8024ba94d05ec11064985e3e726d31", func := "accordion/accordionlaw29.VerifyTells", spec := "verifyTells", inPlace := ["internal/bytealg.IndexByte"], unfollowed := true, recurses := true, plainKeys := false, apart := false, narrowed := true }
def VerifyTellsUptoSaid : Prop := verifyTellsUptoRow.holds Try.pinned (OpenSpec.upto verifyTellsSpec)

/-- 'accordionlaw29.VerifyBudget', WHERE WHAT IT READS IS OF BULK AT MOST 1048576: true; the input reads as it did. -/
def verifyBudgetUptoRow : OpenClaim := { program := "ytmpflnlajakibaa", sum := "ae441f08c449caeb35b4eacba30723b6ed8024ba94d05ec11064985e3e726d31", func := "accordion/accordionlaw29.VerifyBudget", spec := "verifyBudget", inPlace := ["internal/bytealg.IndexByte"], unfollowed := true, recurses := true, plainKeys := false, apart := false, narrowed := true }
def VerifyBudgetUptoSaid : Prop := verifyBudgetUptoRow.holds Try.pinned (OpenSpec.upto verifyBudgetSpec)

/-- 'accordionlaw29.VerifyShared', WHERE WHAT IT READS IS OF BULK AT MOST 1048576: true; the input reads as it did. -/
def verifySharedUptoRow : OpenClaim := { program := "ytmpflnlajakibaa", sum := "ae441f08c449caeb35b4eacba30723b6ed8024ba94d05ec11064985e3e726d31", func := "accordion/accordionlaw29.VerifyShared", spec := "verifyShared", inPlace := ["internal/bytealg.IndexByte"], unfollowed := true, recurses := true, plainKeys := false, apart := false, narrowed := true }
def VerifySharedUptoSaid : Prop := verifySharedUptoRow.holds Try.pinned (OpenSpec.upto verifySharedSpec)

/-- 'accordionlaw29.VerifyDeep', WHERE WHAT IT READS IS OF BULK AT MOST 1048576: true; the input reads as it did. -/
def verifyDeepUptoRow : OpenClaim := { program := "ytmpflnlajakibaa", sum := "ae441f08c449caeb35b4eacba30723b6ed8024ba94d05ec11064985e3e726d31", func := "accordion/accordionlaw29.VerifyDeep", spec := "verifyDeep", inPlace := ["internal/bytealg.IndexByte"], unfollowed := true, recurses := true, plainKeys := false, apart := false, narrowed := true }
def VerifyDeepUptoSaid : Prop := verifyDeepUptoRow.holds Try.pinned (OpenSpec.upto verifyDeepSpec)

/-- 'accordionlaw29.VerifyKnown', WHERE WHAT IT READS IS OF BULK AT MOST 1048576: true; the input reads as it did. -/
def verifyKnownUptoRow : OpenClaim := { program := "ytmpflnlajakibaa", sum := "ae441f08c449caeb35b4eacba30723b6ed8024ba94d05ec11064985e3e726d31", func := "accordion/accordionlaw29.VerifyKnown", spec := "verifyKnown", inPlace := ["internal/bytealg.IndexByte"], unfollowed := true, recurses := true, plainKeys := false, apart := false, narrowed := true }
def VerifyKnownUptoSaid : Prop := verifyKnownUptoRow.holds Try.pinned (OpenSpec.upto verifyKnownSpec)

/-- 'accordionlaw26.DecodeParts', WHERE WHAT IT READS IS OF BULK AT MOST 1048576: true; the input reads as it did. -/
def decodePartsUptoRow : OpenClaim := { program := "ytmpflnlajakibaa", sum := "ae441f08c449caeb35b4eacba30723b6ed8024ba94d05ec11064985e3e726d31", func := "accordion/accordionlaw26.DecodeParts", spec := "decodeParts", inPlace := ["internal/bytealg.IndexByte"], unfollowed := true, recurses := true, plainKeys := false, apart := false, narrowed := true }
def DecodePartsUptoSaid : Prop := decodePartsUptoRow.holds Try.pinned (OpenSpec.upto decodePartsSpec)

/-- 'accordionlaw26.DecodeFuel', WHERE WHAT IT READS IS OF BULK AT MOST 1048576: true; the input reads as it did. -/
def decodeFuelUptoRow : OpenClaim := { program := "ytmpflnlajakibaa", sum := "ae441f08c449caeb35b4eacba30723b6ed8024ba94d05ec11064985e3e726d31", func := "accordion/accordionlaw26.DecodeFuel", spec := "decodeFuel", inPlace := ["internal/bytealg.IndexByte"], unfollowed := true, recurses := true, plainKeys := false, apart := false, narrowed := true }
def DecodeFuelUptoSaid : Prop := decodeFuelUptoRow.holds Try.pinned (OpenSpec.upto decodeFuelSpec)

/-- 'accordionlaw29.VerifyWalk', WHERE WHAT IT READS IS OF BULK AT MOST 1048576: true; the input reads as it did. -/
def verifyWalkUptoRow : OpenClaim := { program := "ytmpflnlajakibaa", sum := "ae441f08c449caeb35b4eacba30723b6ed8024ba94d05ec11064985e3e726d31", func := "accordion/accordionlaw29.VerifyWalk", spec := "verifyWalk", inPlace := ["internal/bytealg.IndexByte"], unfollowed := true, recurses := true, plainKeys := false, apart := false, narrowed := true }
def VerifyWalkUptoSaid : Prop := verifyWalkUptoRow.holds Try.pinned (OpenSpec.upto verifyWalkSpec)

end Rows
end Go.Proofs.Ytmpflnlajakibaa
