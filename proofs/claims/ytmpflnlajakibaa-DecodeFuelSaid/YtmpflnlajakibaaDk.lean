/- A node in memory: its children one by one. -/
import Derived.Test.YtmpflnlajakibaaCDk
namespace Go.Proofs.Ytmpflnlajakibaa
set_option linter.unusedVariables false
set_option linter.unusedSimpArgs false
open Go.RowKit
/-- The children of a node in memory, one by one. -/
theorem rep_kids {w : World} {kd nn u : Int} {s : List UInt8} {ks : List (List UInt8)} {l : List DT} {x0 x1 x2 x3 x4 : Value} {B : Option Addr} {m c : Nat} {bs : List Nat} (h : NRep w (.mk kd nn u s ks l) [x0, x1, x2, x3, x4, .slice B m c] bs) :
    (x0 = .int .i64 kd ∧ m = l.length) ∧ ∀ (W : World), Below w.heap.size w W → ∀ (k : Nat) (hk : k < l.length), ∃ g, B = some ⟨g, 0, none⟩ ∧ g < W.heap.size ∧ ∃ v0 v1 v2 v3 v4 v5 b, NRep W l[k] [v0, v1, v2, v3, v4, v5] b ∧ (∀ j ∈ b, j ∈ bs) ∧
      W.cell? ⟨g, k * 6, none⟩ = some v0 ∧ W.cell? ⟨g, k * 6 + 1, none⟩ = some v1 ∧ W.cell? ⟨g, k * 6 + 2, none⟩ = some v2 ∧ W.cell? ⟨g, k * 6 + 3, none⟩ = some v3 ∧ W.cell? ⟨g, k * 6 + 4, none⟩ = some v4 ∧ W.cell? ⟨g, k * 6 + 5, none⟩ = some v5 := by
  rw [NRep] at h
  obtain ⟨kv, lv, xs, bl, h1, h2, h3, h4, hb⟩ := h
  simp only [nodeC, List.cons.injEq, and_true] at h1
  obtain ⟨rfl, rfl, rfl, rfl, rfl, rfl⟩ := h1
  have hm : m = l.length := by
    obtain ⟨A', c', hA', -⟩ := slice_form h3
    injection hA'
  subst hm
  refine ⟨⟨rfl, rfl⟩, fun W hW k hk => ?_⟩
  obtain ⟨g, e1, e2, v0, v1, v2, v3, v4, v5, b, hN, hbl, hc⟩ := kid_cells (own_below h3 hW) (h4.below hW) k hk
  exact ⟨g, e1, e2, v0, v1, v2, v3, v4, v5, b, hN, fun j hj => by rw [hb]; simp [hbl j hj], hc⟩
theorem rep_bound {w : World} {kd nn u : Int} {s : List UInt8} {ks : List (List UInt8)} {l : List DT} {cs : List Value} {bs : List Nat} (h : NRep w (.mk kd nn u s ks l) cs bs) : l.length ≤ 9223372036854775807 := by
  rw [NRep] at h
  obtain ⟨kv, lv, xs, bl, h1, h2, h3, h4, hb⟩ := h
  exact row_bound h3
theorem NRep.last {w : World} {T : DT} {x0 x1 x2 x3 x4 x5 : Value} {bs : List Nat} (h : NRep w T [x0, x1, x2, x3, x4, x5] bs) : ∃ A m c, x5 = .slice A m c := by
  obtain ⟨kd, n, u, s, ks, l⟩ := T
  rw [NRep] at h
  obtain ⟨kv, lv, xs, bl, h1, h2, h3, h4, hb⟩ := h
  simp only [nodeC, List.cons.injEq, and_true] at h1
  obtain ⟨rfl, rfl, rfl, rfl, rfl, rfl⟩ := h1
  obtain ⟨A, c, hA, -⟩ := slice_form h3
  exact ⟨A, _, c, hA⟩
theorem NRep.form2 {w : World} {T : DT} {x0 x1 x2 x3 x4 x5 : Value} {bs : List Nat} (h : NRep w T [x0, x1, x2, x3, x4, x5] bs) : ∃ kd n u s A1 m1 c1 A2 m2 c2, x0 = .int .i64 kd ∧ x1 = .int .i64 n ∧ x2 = .int .u64 u ∧ x3 = .string s ∧ x4 = .slice A1 m1 c1 ∧ x5 = .slice A2 m2 c2 := by
  obtain ⟨kd, n, u, s, ks, l⟩ := T
  rw [NRep] at h
  obtain ⟨kv, lv, xs, bl, h1, h2, h3, h4, hb⟩ := h
  simp only [nodeC, List.cons.injEq, and_true] at h1
  obtain ⟨rfl, rfl, rfl, rfl, rfl, rfl⟩ := h1
  obtain ⟨A, c, hA, -⟩ := slice_form h2
  obtain ⟨A', c', hA', -⟩ := slice_form h3
  exact ⟨kd, n, u, _, A, _, c, A', _, c', rfl, rfl, rfl, rfl, hA, hA'⟩
end Go.Proofs.Ytmpflnlajakibaa
