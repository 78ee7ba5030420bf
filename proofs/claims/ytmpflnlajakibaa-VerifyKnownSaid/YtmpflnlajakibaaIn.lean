/- Bytes as the laws hold them: nil, or a document in memory; copies; the example. -/
import Derived.Test.YtmpflnlajakibaaA1
import Derived.Laws.AppendOwn
import Derived.Laws.AppendOwnNone
import Derived.Laws.Rows
namespace Go.Proofs.Ytmpflnlajakibaa
set_option linter.unusedVariables false
set_option linter.unusedSimpArgs false
open Go.RowKit
/-- A slice of bytes that reads as L: nil, or in memory. -/
def Byt (w : World) (v : Value) (L : List UInt8) : Prop := (v = .slice none 0 0 ∧ L = []) ∨ ∃ b o cap, v = .slice (some ⟨b, o, none⟩) L.length cap ∧ Doc w b o L.length cap L
theorem Byt.below {w w' : World} {v : Value} {L : List UInt8} (h : Byt w v L) (hb : Below w.heap.size w w') : Byt w' v L := by
  rcases h with h | ⟨b, o, cap, h1, h2⟩
  · exact .inl h
  · exact .inr ⟨b, o, cap, h1, h2.below hb⟩
def bytV (L : List UInt8) : List Value := L.map fun x => .int .u8 (x.toNat : Int)
theorem bytesAt_row {w : World} {g : Nat} {L : List UInt8} {cur : Array Value} {e : TypeId} {fr : Nat × Nat} (h : w.heap[g]? = some (.cells cur e fr)) (hc : cur.toList.take L.length = bytV L) : BytesAt w g 0 L := by
  intro i hi
  have hx : cur[i]? = some (.int .u8 (L[i].toNat : Int)) := by
    have h9 : (cur.toList.take L.length)[i]? = (bytV L)[i]? := by rw [hc]
    rw [List.getElem?_take_of_lt hi, bytV, List.getElem?_map, List.getElem?_eq_getElem hi] at h9
    simpa using h9
  have := cell_of_row w g (0 + i) cur e fr h
  rw [this, Nat.zero_add]; exact hx
theorem byt_of_owns {w : World} {B : Nat} {e : TypeId} {v : Value} {n : Nat} {L : List UInt8} (h : w.ownsRow B e 1 v n (bytV L)) (hs : n ≤ 1073741824) : Byt w v L := by
  obtain ⟨h1, h2 | ⟨g, cap, cur, rfl, h3, h4, h5, h6, h7, h8⟩⟩ := h
  · obtain ⟨rfl, rfl⟩ := h2
    simp [bytV] at h1
    exact .inl ⟨rfl, h1⟩
  · simp only [bytV, List.length_map, Nat.mul_one] at h1 h7 h8
    subst h1
    exact .inr ⟨g, 0, cap, rfl, rfl, by omega, h6, by omega, bytesAt_row h4 h8, (Array.getElem?_eq_some_iff.1 h4).1⟩
theorem u8info : (Try.prog.info? 5).map (fun i => (i.zero, i.size, i.bytes)) = some (some (.int .u8 0), 1, 1) := by kernel_rfl
/-- CopyBytes. -/
theorem copy_nil (w : World) : Calls Try.prog 11 #[.slice none 0 0] w fun e w' => e = .returned (.slice none 0 0) ∧ w = w' := by
  obtain ⟨i0, hi, hz0, hz1, hz2⟩ := info_parts u8info
  go_enter Try.func11, Try.ntmps11
  go_wp2_with (at_builtin; refine wpList_append_own_none rfl _ _ 22 rfl 0 5 i0 1 Try.underlying22 hi (.slice none 0 0) 0 [] rfl ⟨rfl, .inl ⟨rfl, rfl⟩⟩ rfl ?_)
  go_returns
  exact ⟨rfl, rfl⟩
theorem copy_mem (ad : Addr) (m c : Nat) (L : List UInt8) (w : World) (hL : L.length = m) (hat : ∀ i (h : i < L.length), w.cell? (ad.add i) = some (.int .u8 (L[i].toNat : Int))) (hm : m ≤ 1073741824) :
    Calls Try.prog 11 #[.slice (some ad) m c] w fun e w' => (∃ v, e = .returned v ∧ Byt w' v L) ∧ Below w.heap.size w w' := by
  obtain ⟨i0, hi, hz0, hz1, hz2⟩ := info_parts u8info
  have HL := Lib.hid hL
  have HA := Lib.hid hat
  clear hL hat
  go_enter Try.func11, Try.ntmps11
  go_wp2_with (at_builtin; refine wpList_append_own _ rfl _ _ 22 rfl w.heap.size 5 i0 (.int .u8 0) 1 1 Try.underlying22 hi hz0 hz1 hz2 rfl (by decide) (.slice none 0 0) 0 [] rfl ⟨rfl, .inl ⟨rfl, rfl⟩⟩ ad m c (bytV L) rfl ?c1 ?c2 ?c3 ?c4 ?c5 ?c6 ?_)
  case c1 => simp [bytV, HL.out]
  case c2 =>
    intro j u hj
    rw [bytV, List.getElem?_map] at hj
    cases hx : L[j]? with
    | none => rw [hx] at hj; cases hj
    | some y =>
      rw [hx] at hj
      obtain ⟨hl, rfl⟩ := List.getElem?_eq_some_iff.1 hx
      cases hj
      exact HA.out j hl
  case c3 =>
    intro u hu
    obtain ⟨y, -, rfl⟩ := List.mem_map.1 hu
    rfl
  case c4 => unfold maxLen; omega
  case c5 => omega
  case c6 => exact Nat.le_refl _
  intro v' w' hown hgrow _
  have hbt := Lib.hid (byt_of_owns hown (by omega))
  have hbl := Lib.hid ((Below.refl w.heap.size w).grown hgrow (Nat.le_refl _) (fun k hk => by cases hk))
  clear hown hgrow
  go_wp2
  go_returns
  exact ⟨⟨_, rfl, hbt.out⟩, hbl.out⟩
/-- What a law is told of a slice of integers that came in. -/
def IsRow (k : IntKind) (w : World) (a : Option Addr) (len cap : Nat) (zs : List Int) : Prop :=
  (a = none ∧ len = 0 ∧ cap = 0 ∧ zs = []) ∨
  ∃ x, a = some x ∧ len ≤ cap ∧ cap ≤ maxLen ∧ zs.length = cap ∧ (∀ i, i < zs.length → w.cell? (x.add i) = some (.int k (zs.getD i 0))) ∧ ∀ n ∈ zs, (Lit.int k n).wf = true
theorem wf_in8 {n : Int} (h : (Lit.int .u8 n).wf = true) : 0 ≤ n ∧ n < 256 := by
  have h' : IntKind.u8.min ≤ n ∧ n ≤ IntKind.u8.max := by simpa [Lit.wf] using h
  have e1 : IntKind.u8.min = 0 := rfl
  have e2 : IntKind.u8.max = 255 := rfl
  omega
/-- The example of chapter 25, and with another byte. -/
def exD : List UInt8 := [97, 0, 98, 0, 2, 5, 4, 2, 1, 2, 0, 1, 0, 4, 4, 36, 1]
def exD6 : List UInt8 := [97, 0, 98, 0, 2, 5, 6, 2, 1, 2, 0, 1, 0, 4, 4, 36, 1]
theorem doc_row {w : World} {g : Nat} {L : List UInt8} {cur : Array Value} {e : TypeId} {fr : Nat × Nat} (h : w.heap[g]? = some (.cells cur e fr)) (hc : cur.toList = bytV L) (hs : L.length ≤ 1073741824) : Doc w g 0 L.length L.length L :=
  ⟨rfl, Nat.le_refl _, by unfold maxLen; omega, hs, bytesAt_row h (by rw [hc, List.take_of_length_le (by simp [bytV])]), (Array.getElem?_eq_some_iff.1 h).1⟩
theorem example_0 (w : World) : Calls Try.prog 18 #[.int .i64 0, .int .u8 97] w fun e w' => (e = .returned (.slice (some ⟨w.heap.size, 0, none⟩) 17 17) ∧ Doc w' w.heap.size 0 17 17 exD) ∧ Below w.heap.size w w' := by
  go_enter Try.func18, Try.ntmps18
  go_wp2
  go_returns
  refine ⟨⟨rfl, ?_⟩, (Below.refl _ _).alloc (Nat.le_refl _) _⟩
  exact doc_row (L := exD) (heap_alloc_new _ _) rfl (by decide)
theorem example_6 (w : World) : Calls Try.prog 18 #[.int .i64 6, .int .u8 6] w fun e w' => (e = .returned (.slice (some ⟨w.heap.size, 0, none⟩) 17 17) ∧ Doc w' w.heap.size 0 17 17 exD6) ∧ Below w.heap.size w w' := by
  go_enter Try.func18, Try.ntmps18
  go_wp2
  go_returns
  refine ⟨⟨rfl, ?_⟩, (Below.refl _ _).alloc (Nat.le_refl _) _⟩
  exact doc_row (L := exD6) (heap_alloc_new _ _) rfl (by decide)
end Go.Proofs.Ytmpflnlajakibaa
