/- The walks of lex.kindOf and lex.spelt: maps made anew. -/
import Derived.Test.YtccmhhmdenfecaaGreatDoorLl
import Derived.MapKept
namespace Go.Proofs.YtccmhhmdenfecaaGreatDoor
set_option linter.unusedVariables false
set_option linter.unusedSimpArgs false
open Go.RowKit Go.Shelf
theorem set_new (w : World) (a o : Obj) : { w.alloc a with heap := (w.alloc a).heap.setIfInBounds w.heap.size o } = w.alloc o := by
  have h : (w.alloc a).heap.setIfInBounds w.heap.size o = (w.alloc o).heap := by
    apply Array.ext_getElem?
    intro i
    rcases Nat.lt_trichotomy i w.heap.size with h | rfl | h
    · rw [Array.getElem?_setIfInBounds_ne (by omega)]
      exact (Lib.alloc_old w a i h).trans (Lib.alloc_old w o i h).symm
    · rw [Array.getElem?_setIfInBounds_self_of_lt (by show _ < (w.alloc a).heap.size; rw [World.size_alloc]; omega)]
      exact (heap_alloc_new w o).symm
    · rw [Array.getElem?_setIfInBounds_ne (by omega), Array.getElem?_eq_none (by show (w.alloc a).heap.size ≤ i; rw [World.size_alloc]; omega), Array.getElem?_eq_none (by rw [World.size_alloc]; omega)]
  rw [h]; rfl
theorem insk {P : Program} (T K E : TypeId) (d : TypeDesc) (hT : P.underlying T = some (.map K E)) (hK : P.underlying K = some d) (w : World) (es : Array MapEntry) (clock : Nat) (k val : Value) (hk : MapKept.IsKey d k)
    (hf : Instr.findNow d k es.toList 0 = some none) :
    (Instr.mapUpdate T (.map (some w.heap.size)) k val).run P (w.alloc (.map es clock)) = .ok () (w.alloc (.map (es.push ⟨k, val, clock⟩) (clock + 1))) := by
  have hg : (w.alloc (.map es clock)).heap[w.heap.size]? = some (.map es clock) := heap_alloc_new _ _
  have hc := fun e => MapKept.run_checkKey (P := P) (w := w.alloc (.map es clock)) hK hk e 9999
  simp [Instr.mapUpdate, run_underlying hT, MapKept.run_getObj_map hg, hc, MapKept.run_findKey hK hf, MapKept.run_setObj_map _ hg, Result.andThen]
  exact set_new w _ _
theorem lookk {P : Program} (T K E : TypeId) (d : TypeDesc) (hT : P.underlying T = some (.map K E)) (hK : P.underlying K = some d) (w : World) (b : Nat) (es : Array MapEntry) (clock : Nat) (k : Value) (hk : MapKept.IsKey d k) (r : Option (Nat × Value)) (c : Bool)
    (hg : w.heap[b]? = some (.map es clock)) (z : Value) (hz : (zeroValue E).run P w = .ok z w)
    (hf : Instr.findNow d k es.toList 0 = some r) :
    (Instr.lookup T (.map (some b)) k c).run P w = .ok (if c then .tuple #[((r.map (·.2)).getD z), .bool r.isSome] else (r.map (·.2)).getD z) w := by
  have hc := fun e => MapKept.run_checkKey (P := P) (w := w) hK hk e 9999
  cases r with
  | none => simp [Instr.lookup, run_underlying hT, MapKept.run_getObj_map hg, hc, MapKept.run_findKey hK hf, hz, Result.andThen]
  | some x => obtain ⟨i, v⟩ := x; simp [Instr.lookup, run_underlying hT, MapKept.run_getObj_map hg, hc, MapKept.run_findKey hK hf, Result.andThen]
/-- The words: first byte, spelling, kind. -/
def wordTab : List (UInt8 × List UInt8 × Int) := [(123, [123], 1), (125, [125], 2), (91, [91], 3), (93, [93], 4), (44, [44], 5), (58, [58], 6), (110, [110, 117, 108, 108], 7), (102, [102, 97, 108, 115, 101], 8), (116, [116, 114, 117, 101], 9)]
theorem spell_tab {c : UInt8} {x : List UInt8} {k : Int} (h : spellW c = some (x, k)) : (c, x, k) ∈ wordTab := by
  unfold spellW at h
  (repeat' split at h) <;> first | (cases h; subst_vars; decide) | cases h
def kE (m : Nat) : Array MapEntry := ((wordTab.take m).zipIdx.map fun x => ⟨strV x.1.2.1, .int .i64 x.1.2.2, x.2⟩).toArray
def sE (m : Nat) : Array MapEntry := ((wordTab.take m).zipIdx.map fun x => ⟨.int .u8 x.1.1.toNat, strV x.1.2.1, x.2⟩).toArray
theorem zero_i (w : World) : (zeroValue 3).run Tryz.prog w = .ok (.int .i64 0) w := by kernel_rfl
theorem zero_s (w : World) : (zeroValue 9).run Tryz.prog w = .ok (.string .empty) w := by kernel_rfl
set_option maxRecDepth 100000 in
set_option maxHeartbeats 4000000 in
theorem spelt_any (w : World) : Calls Tryz.prog 70 #[] w fun e w' => e = .returned (.map (some w.heap.size)) ∧ w' = w.alloc (.map (sE 9) 9) := by
  have hmm := @run_makeMap Tryz.prog
  have ins := fun (m : Nat) (n : Int) (x : List UInt8) (hf : Instr.findNow (.int .u8) (.int .u8 n) (sE m).toList 0 = some none) (he : (sE m).push ⟨.int .u8 n, strV x, m⟩ = sE (m + 1)) =>
    show (Instr.mapUpdate 121 (.map (some w.heap.size)) (.int .u8 n) (.string ⟨x.toArray⟩)).run Tryz.prog (w.alloc (.map (sE m) m)) = .ok () (w.alloc (.map (sE (m + 1)) (m + 1))) from
      (insk (P := Tryz.prog) 121 5 9 (.int .u8) Tryz.underlying121 Tryz.underlying5 w (sE m) m (.int .u8 n) (strV x) rfl hf).trans (by rw [he])
  have i0 : (Instr.mapUpdate 121 (.map (some w.heap.size)) (.int .u8 123) (.string ⟨#[123]⟩)).run Tryz.prog (w.alloc (.map #[] 0)) = .ok () (w.alloc (.map (sE 1) 1)) := ins 0 123 [123] rfl rfl
  have i1 := ins 1 125 [125] rfl rfl
  have i2 := ins 2 91 [91] rfl rfl
  have i3 := ins 3 93 [93] rfl rfl
  have i4 := ins 4 44 [44] rfl rfl
  have i5 := ins 5 58 [58] rfl rfl
  have i6 := ins 6 110 [110, 117, 108, 108] rfl rfl
  have i7 := ins 7 102 [102, 97, 108, 115, 101] rfl rfl
  have i8 := ins 8 116 [116, 114, 117, 101] rfl rfl
  clear ins
  go_enter Tryz.func70, Tryz.ntmps70
  go_wp2_with fail
  go_ret
  exact ⟨rfl, rfl⟩
set_option maxRecDepth 100000 in
set_option maxHeartbeats 4000000 in
theorem kindOf_any (c : UInt8) (x : List UInt8) (k : Int) (w : World) (h : spellW c = some (x, k)) : Calls Tryz.prog 104 #[strV x] w fun e w' => e = .returned (.int .i64 k) ∧ w' = w.alloc (.map (kE 9) 9) := by
  have hmm := @run_makeMap Tryz.prog
  have ins := fun (m : Nat) (n : Int) (x : List UInt8) (hf : Instr.findNow .string (strV x) (kE m).toList 0 = some none) (he : (kE m).push ⟨strV x, .int .i64 n, m⟩ = kE (m + 1)) =>
    show (Instr.mapUpdate 142 (.map (some w.heap.size)) (.string ⟨x.toArray⟩) (.int .i64 n)).run Tryz.prog (w.alloc (.map (kE m) m)) = .ok () (w.alloc (.map (kE (m + 1)) (m + 1))) from
      (insk (P := Tryz.prog) 142 9 3 .string Tryz.underlying142 Tryz.underlying9 w (kE m) m (strV x) (.int .i64 n) trivial hf).trans (by rw [he])
  have i0 : (Instr.mapUpdate 142 (.map (some w.heap.size)) (.string ⟨#[123]⟩) (.int .i64 1)).run Tryz.prog (w.alloc (.map #[] 0)) = .ok () (w.alloc (.map (kE 1) 1)) := ins 0 1 [123] rfl rfl
  have i1 := ins 1 2 [125] (by kernel_rfl) rfl
  have i2 := ins 2 3 [91] (by kernel_rfl) rfl
  have i3 := ins 3 4 [93] (by kernel_rfl) rfl
  have i4 := ins 4 5 [44] (by kernel_rfl) rfl
  have i5 := ins 5 6 [58] (by kernel_rfl) rfl
  have i6 := ins 6 7 [110, 117, 108, 108] (by kernel_rfl) rfl
  have i7 := ins 7 8 [102, 97, 108, 115, 101] (by kernel_rfl) rfl
  have i8 := ins 8 9 [116, 114, 117, 101] (by kernel_rfl) rfl
  have hl : (Instr.lookup 142 (.map (some w.heap.size)) (.string ⟨x.toArray⟩) false).run Tryz.prog (w.alloc (.map (kE 9) 9)) = .ok (.int .i64 k) (w.alloc (.map (kE 9) 9)) := by
    have key := fun (r : Option (Nat × Value)) (hf : Instr.findNow .string (strV x) (kE 9).toList 0 = some r) => lookk (P := Tryz.prog) 142 9 3 .string Tryz.underlying142 Tryz.underlying9 (w.alloc (.map (kE 9) 9)) w.heap.size (kE 9) 9 (strV x) trivial r false (heap_alloc_new _ _) _ (zero_i _) hf
    have ht := spell_tab h
    simp only [wordTab, List.mem_cons, List.not_mem_nil, or_false, Prod.mk.injEq] at ht
    rcases ht with ⟨-, rfl, rfl⟩ | ⟨-, rfl, rfl⟩ | ⟨-, rfl, rfl⟩ | ⟨-, rfl, rfl⟩ | ⟨-, rfl, rfl⟩ | ⟨-, rfl, rfl⟩ | ⟨-, rfl, rfl⟩ | ⟨-, rfl, rfl⟩ | ⟨-, rfl, rfl⟩
    · exact key (some (0, .int .i64 1)) (by kernel_rfl)
    · exact key (some (1, .int .i64 2)) (by kernel_rfl)
    · exact key (some (2, .int .i64 3)) (by kernel_rfl)
    · exact key (some (3, .int .i64 4)) (by kernel_rfl)
    · exact key (some (4, .int .i64 5)) (by kernel_rfl)
    · exact key (some (5, .int .i64 6)) (by kernel_rfl)
    · exact key (some (6, .int .i64 7)) (by kernel_rfl)
    · exact key (some (7, .int .i64 8)) (by kernel_rfl)
    · exact key (some (8, .int .i64 9)) (by kernel_rfl)
  clear ins h
  unfold strV
  go_enter Tryz.func104, Tryz.ntmps104
  go_wp2_with fail
  go_ret
  exact ⟨rfl, rfl⟩
/-- A look-up in what spelt makes. -/
theorem spelt_yes {c : UInt8} {x : List UInt8} {k : Int} (h : spellW c = some (x, k)) {w : World} {b : Nat} (hg : w.heap[b]? = some (.map (sE 9) 9)) :
    (Instr.lookup 121 (.map (some b)) (.int .u8 c.toNat) true).run Tryz.prog w = .ok (.tuple #[.string ⟨x.toArray⟩, .bool true]) w := by
  have key := fun (r : Option (Nat × Value)) (hf : Instr.findNow (.int .u8) (.int .u8 c.toNat) (sE 9).toList 0 = some r) => lookk (P := Tryz.prog) 121 5 9 (.int .u8) Tryz.underlying121 Tryz.underlying5 w b (sE 9) 9 (.int .u8 c.toNat) rfl r true hg _ (zero_s _) hf
  have ht := spell_tab h
  simp only [wordTab, List.mem_cons, List.not_mem_nil, or_false, Prod.mk.injEq] at ht
  rcases ht with ⟨rfl, rfl, -⟩ | ⟨rfl, rfl, -⟩ | ⟨rfl, rfl, -⟩ | ⟨rfl, rfl, -⟩ | ⟨rfl, rfl, -⟩ | ⟨rfl, rfl, -⟩ | ⟨rfl, rfl, -⟩ | ⟨rfl, rfl, -⟩ | ⟨rfl, rfl, -⟩
  · exact key (some (0, .string ⟨#[123]⟩)) (by kernel_rfl)
  · exact key (some (1, .string ⟨#[125]⟩)) (by kernel_rfl)
  · exact key (some (2, .string ⟨#[91]⟩)) (by kernel_rfl)
  · exact key (some (3, .string ⟨#[93]⟩)) (by kernel_rfl)
  · exact key (some (4, .string ⟨#[44]⟩)) (by kernel_rfl)
  · exact key (some (5, .string ⟨#[58]⟩)) (by kernel_rfl)
  · exact key (some (6, .string ⟨#[110, 117, 108, 108]⟩)) (by kernel_rfl)
  · exact key (some (7, .string ⟨#[102, 97, 108, 115, 101]⟩)) (by kernel_rfl)
  · exact key (some (8, .string ⟨#[116, 114, 117, 101]⟩)) (by kernel_rfl)
theorem spelt_no {c : UInt8} (h : spellW c = none) {w : World} {b : Nat} (hg : w.heap[b]? = some (.map (sE 9) 9)) :
    (Instr.lookup 121 (.map (some b)) (.int .u8 c.toNat) true).run Tryz.prog w = .ok (.tuple #[.string .empty, .bool false]) w := by
  refine lookk (P := Tryz.prog) 121 5 9 (.int .u8) Tryz.underlying121 Tryz.underlying5 w b (sE 9) 9 (.int .u8 c.toNat) rfl none true hg _ (zero_s _) ?_
  have hall : ∀ n : Fin 256, spellW (UInt8.ofNat n.val) = none → (Instr.findNow (.int .u8) (.int .u8 (n.val : Int)) (sE 9).toList 0).map Option.isNone = some true := by decide +kernel
  have := hall ⟨c.toNat, c.toNat_lt⟩ (by simpa using h)
  dsimp only at this
  generalize Instr.findNow (.int .u8) (.int .u8 (c.toNat : Int)) (sE 9).toList 0 = r at this ⊢
  cases r with
  | none => cases this
  | some r => cases r with
    | none => rfl
    | some x => cases this
end Go.Proofs.YtccmhhmdenfecaaGreatDoor
