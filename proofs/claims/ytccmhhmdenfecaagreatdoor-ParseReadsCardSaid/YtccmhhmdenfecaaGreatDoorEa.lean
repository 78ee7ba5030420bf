/- Trees that came in, as they read: no ownership. What the laws make of them: trees cut to a number of nodes. Strings cut short; rows of texts, and trees, cut and copied. -/
import Derived.Test.YtccmhhmdenfecaaGreatDoorT0
import Derived.ChangeArms
import Derived.DataReads
import Derived.BigQuiet
import Derived.Deep.RegionHeld3
namespace Go.Proofs.YtccmhhmdenfecaaGreatDoor
set_option linter.unusedVariables false
set_option linter.unusedSimpArgs false
set_option linter.unusedSectionVars false
section
section
open Go.RowKit
/-- A slice that reads as n elements of sz cells. -/
def Rd (w : World) (v : Value) (sz n : Nat) (xs : List Value) : Prop :=
  ∃ A c, v = .slice A n c ∧ n ≤ 9223372036854775807 ∧ xs.length = n * sz ∧ (A = none → c = 0) ∧ (0 < n → ∃ b o, A = some ⟨b, o, none⟩ ∧ b < w.heap.size ∧ ∀ j, j < n * sz → w.cell? ⟨b, o + j, none⟩ = xs[j]?)
theorem Rd.below {w w' : World} {v : Value} {sz n : Nat} {xs : List Value} (h : Rd w v sz n xs) (hb : Below w.heap.size w w') : Rd w' v sz n xs := by
  obtain ⟨A, c, h1, h2, h3, h5, h4⟩ := h
  refine ⟨A, c, h1, h2, h3, h5, fun hn => ?_⟩
  obtain ⟨b, o, e1, e2, e3⟩ := h4 hn
  exact ⟨b, o, e1, Nat.lt_of_lt_of_le e2 hb.size, fun j hj => (hb.cell (p := ⟨b, o + j, none⟩) e2).trans (e3 j hj)⟩
theorem Rd.of_owns {w : World} {B : Nat} {e : TypeId} {sz n : Nat} {v : Value} {xs : List Value} (h : w.ownsRow B e sz v n xs) : Rd w v sz n xs := by
  obtain ⟨A, c, rfl, -⟩ := slice_form h
  refine ⟨A, c, rfl, row_bound h, h.1, fun hA => ?_, fun hn => ?_⟩
  · subst hA
    rcases h.2 with ⟨h1, -⟩ | ⟨g, c', cur, h1, -⟩
    · injection h1
    · injection h1 with h1 _ _; cases h1
  obtain ⟨g, rfl, hg, hc⟩ := row_cell h hn
  exact ⟨g, 0, rfl, hg, fun j hj => by rw [Nat.zero_add]; exact hc j hj⟩
/-- The cells of a row that reads. -/
theorem Rd.cells {w : World} {A : Option Addr} {m c sz n : Nat} {xs : List Value} (h : Rd w (.slice A m c) sz n xs) (hn : 0 < n) : ∃ b o, A = some ⟨b, o, none⟩ ∧ b < w.heap.size ∧ ∀ j, j < n * sz → w.cell? ⟨b, o + j, none⟩ = xs[j]? := by
  obtain ⟨A', c', h1, -, -, -, h4⟩ := h
  injection h1 with h1 h2 h3
  subst h1
  exact h4 hn
theorem Rd.form {w : World} {v : Value} {sz n : Nat} {xs : List Value} (h : Rd w v sz n xs) : ∃ A c, v = .slice A n c := by
  obtain ⟨A', c', h1, -⟩ := h
  exact ⟨A', c', h1⟩
theorem Rd.bound {w : World} {v : Value} {sz n : Nat} {xs : List Value} (h : Rd w v sz n xs) : n ≤ 9223372036854775807 := by
  obtain ⟨A', c', -, h2, -⟩ := h
  exact h2
theorem Rd.nil {w : World} {m c sz n : Nat} {xs : List Value} (h : Rd w (.slice Option.none m c) sz n xs) : m = 0 ∧ n = 0 ∧ c = 0 := by
  obtain ⟨A', c', h1, -, -, h2, h3⟩ := h
  injection h1 with h1 h4 h5
  have h0 := h2 h1.symm
  have : n = 0 := by
    cases n with
    | zero => rfl
    | succ n =>
      obtain ⟨b, o, e, -⟩ := h3 (by omega)
      rw [← h1] at e
      cases e
  exact ⟨by omega, this, by omega⟩
theorem Rd.len {w : World} {v : Value} {sz n : Nat} {xs : List Value} (h : Rd w v sz n xs) : xs.length = n * sz := by
  obtain ⟨A', c', -, -, h2, -⟩ := h
  exact h2
def in64 (n : Int) : Prop := -9223372036854775808 ≤ n ∧ n ≤ 9223372036854775807
def inU (n : Int) : Prop := 0 ≤ n ∧ n ≤ 18446744073709551615
mutual
/-- The numbers of a tree fit. -/
def WfD : DT → Prop
  | .mk kd n u s ks l => in64 kd ∧ in64 n ∧ inU u ∧ s.length ≤ 9223372036854775807 ∧ (∀ k ∈ ks, k.length ≤ 9223372036854775807) ∧ WfDs l
def WfDs : List DT → Prop
  | [] => True
  | t :: ts => WfD t ∧ WfDs ts
end
mutual
/-- The cells of a node as it reads. -/
def RRep (w : World) : DT → List Value → Prop
  | .mk kd n u s ks l, cs => ∃ kv lv xs, cs = nodeC kd n u s kv lv ∧ Rd w kv 1 ks.length (ks.map strV) ∧ Rd w lv 6 l.length xs ∧ RReps w l xs
def RReps (w : World) : List DT → List Value → Prop
  | [], xs => xs = []
  | t :: ts, xs => ∃ c xs', RRep w t c ∧ RReps w ts xs' ∧ xs = c ++ xs'
end
mutual
theorem RRep.below {w w' : World} (hb : Below w.heap.size w w') : ∀ (T : DT) (cs : List Value), RRep w T cs → RRep w' T cs
  | .mk kd n u s ks l, cs, h => by
    rw [RRep] at h ⊢
    obtain ⟨kv, lv, xs, h1, h2, h3, h4⟩ := h
    exact ⟨kv, lv, xs, h1, h2.below hb, h3.below hb, RReps.below hb l xs h4⟩
theorem RReps.below {w w' : World} (hb : Below w.heap.size w w') : ∀ (l : List DT) (xs : List Value), RReps w l xs → RReps w' l xs
  | [], xs, h => by rw [RReps] at h ⊢; exact h
  | t :: ts, xs, h => by
    rw [RReps] at h ⊢
    obtain ⟨c, xs', h1, h2, h3⟩ := h
    exact ⟨c, xs', RRep.below hb t c h1, RReps.below hb ts xs' h2, h3⟩
end
mutual
theorem NRep.reads {w : World} : ∀ (T : DT) (cs : List Value) (bs : List Nat), NRep w T cs bs → RRep w T cs
  | .mk kd n u s ks l, cs, bs, h => by
    rw [NRep] at h
    rw [RRep]
    obtain ⟨kv, lv, xs, bl, h1, h2, h3, h4, -⟩ := h
    exact ⟨kv, lv, xs, h1, Rd.of_owns h2, Rd.of_owns h3, NReps.reads l xs bl h4⟩
theorem NReps.reads {w : World} : ∀ (l : List DT) (xs : List Value) (bs : List Nat), NReps w l xs bs → RReps w l xs
  | [], xs, bs, h => by rw [NReps] at h; rw [RReps]; exact h.1
  | t :: ts, xs, bs, h => by
    rw [NReps] at h
    rw [RReps]
    obtain ⟨c, b, xs', bs', h1, h2, h3, -⟩ := h
    exact ⟨c, xs', NRep.reads t c b h1, NReps.reads ts xs' bs' h2, h3⟩
end
/-- The six cells of a node that reads, by name. -/
theorem RRep.form {w : World} {kd n u : Int} {s : List UInt8} {ks : List (List UInt8)} {l : List DT} {cs : List Value} (h : RRep w (.mk kd n u s ks l) cs) :
    ∃ A1 c1 A2 c2 xs, cs = [.int .i64 kd, .int .i64 n, .int .u64 u, strV s, .slice A1 ks.length c1, .slice A2 l.length c2] ∧ Rd w (.slice A1 ks.length c1) 1 ks.length (ks.map strV) ∧ Rd w (.slice A2 l.length c2) 6 l.length xs ∧ RReps w l xs := by
  rw [RRep] at h
  obtain ⟨kv, lv, xs, h1, h2, h3, h4⟩ := h
  obtain ⟨A1, c1, rfl⟩ := h2.form
  obtain ⟨A2, c2, rfl⟩ := h3.form
  exact ⟨A1, c1, A2, c2, xs, h1, h2, h3, h4⟩
theorem RRep.cs6 {w : World} {T : DT} {cs : List Value} (h : RRep w T cs) : ∃ kd n u s A1 m1 c1 A2 m2 c2, cs = [.int .i64 kd, .int .i64 n, .int .u64 u, .string s, .slice A1 m1 c1, .slice A2 m2 c2] := by
  obtain ⟨kd, n, u, s, ks, l⟩ := T
  obtain ⟨A1, c1, A2, c2, xs, h1, -⟩ := h.form
  exact ⟨_, _, _, _, _, _, _, _, _, _, h1⟩
theorem RReps.at_ {w : World} : ∀ (l : List DT) (xs : List Value) (i : Nat) (hi : i < l.length), RReps w l xs →
    ∃ v0 v1 v2 v3 v4 v5, RRep w l[i] [v0, v1, v2, v3, v4, v5] ∧ xs[i * 6]? = some v0 ∧ xs[i * 6 + 1]? = some v1 ∧ xs[i * 6 + 2]? = some v2 ∧ xs[i * 6 + 3]? = some v3 ∧ xs[i * 6 + 4]? = some v4 ∧ xs[i * 6 + 5]? = some v5
  | t :: ts, xs, 0, _, h => by
    rw [RReps] at h
    obtain ⟨c, xs', h1, h2, rfl⟩ := h
    obtain ⟨_, _, _, _, _, _, _, _, _, _, rfl⟩ := h1.cs6
    exact ⟨_, _, _, _, _, _, h1, rfl, rfl, rfl, rfl, rfl, rfl⟩
  | t :: ts, xs, i + 1, hi, h => by
    rw [RReps] at h
    obtain ⟨c, xs', h1, h2, rfl⟩ := h
    obtain ⟨kd, n, u, s, A1, m1, c1, A2, m2, c2, rfl⟩ := h1.cs6
    obtain ⟨v0, v1, v2, v3, v4, v5, g, g0, g1, g2, g3, g4, g5⟩ := RReps.at_ ts xs' i (by simpa using hi) h2
    have hs : ∀ j, ([Value.int .i64 kd, .int .i64 n, .int .u64 u, .string s, .slice A1 m1 c1, .slice A2 m2 c2] ++ xs')[(i + 1) * 6 + j]? = xs'[i * 6 + j]? := by
      intro j
      rw [List.getElem?_append_right (by simp; omega)]
      congr 1
      simp
      omega
    exact ⟨v0, v1, v2, v3, v4, v5, g, (hs 0).trans g0, (hs 1).trans g1, (hs 2).trans g2, (hs 3).trans g3, (hs 4).trans g4, (hs 5).trans g5⟩
/-- A child of a tree that reads: its six cells where they lie, in whatever world the blocks still stand. -/
theorem RReps.kid {w0 : World} {l : List DT} {xs : List Value} {A : Option Addr} {m c : Nat} (hx : RReps w0 l xs) (h : Rd w0 (.slice A m c) 6 l.length xs) {w : World} (hb : Below w0.heap.size w0 w) (k : Nat) (hk : k < l.length) :
    ∃ b o kd n u s A1 m1 c1 A2 m2 c2, A = some ⟨b, o, none⟩ ∧ b < w0.heap.size ∧ b < w.heap.size ∧ RRep w0 l[k] [.int .i64 kd, .int .i64 n, .int .u64 u, .string s, .slice A1 m1 c1, .slice A2 m2 c2] ∧
      w.cell? ⟨b, o + k * 6, none⟩ = some (.int .i64 kd) ∧ w.cell? ⟨b, o + k * 6 + 1, none⟩ = some (.int .i64 n) ∧ w.cell? ⟨b, o + k * 6 + 2, none⟩ = some (.int .u64 u) ∧ w.cell? ⟨b, o + k * 6 + 3, none⟩ = some (.string s) ∧ w.cell? ⟨b, o + k * 6 + 4, none⟩ = some (.slice A1 m1 c1) ∧ w.cell? ⟨b, o + k * 6 + 5, none⟩ = some (.slice A2 m2 c2) := by
  obtain ⟨b, o, rfl, hlt, hc⟩ := h.cells (by omega)
  obtain ⟨v0, v1, v2, v3, v4, v5, h1, e0, e1, e2, e3, e4, e5⟩ := RReps.at_ l xs k hk hx
  obtain ⟨kd, n, u, s, A1, m1, c1, A2, m2, c2, hcs⟩ := h1.cs6
  simp only [List.cons.injEq, and_true] at hcs
  obtain ⟨rfl, rfl, rfl, rfl, rfl, rfl⟩ := hcs
  have at_ : ∀ j, j < 6 → ∀ v, xs[k * 6 + j]? = some v → w.cell? ⟨b, o + k * 6 + j, none⟩ = some v := by
    intro j hj v hv
    rw [hb.cell (p := ⟨b, o + k * 6 + j, none⟩) hlt, Nat.add_assoc, hc (k * 6 + j) (by omega)]
    exact hv
  exact ⟨b, o, kd, n, u, s, A1, m1, c1, A2, m2, c2, rfl, hlt, Nat.lt_of_lt_of_le hlt hb.size, h1, at_ 0 (by omega) _ e0, at_ 1 (by omega) _ e1, at_ 2 (by omega) _ e2, at_ 3 (by omega) _ e3, at_ 4 (by omega) _ e4, at_ 5 (by omega) _ e5⟩
/-- A text of a row of texts that reads. -/
theorem Rd.text {w0 : World} {ks : List (List UInt8)} {A : Option Addr} {m c : Nat} (h : Rd w0 (.slice A m c) 1 ks.length (ks.map strV)) {w : World} (hb : Below w0.heap.size w0 w) (k : Nat) (hk : k < ks.length) :
    ∃ b o, A = some ⟨b, o, none⟩ ∧ b < w0.heap.size ∧ b < w.heap.size ∧ w.cell? ⟨b, o + k, none⟩ = some (.string ⟨ks[k].toArray⟩) := by
  obtain ⟨b, o, rfl, hlt, hc⟩ := h.cells (by omega)
  refine ⟨b, o, rfl, hlt, Nat.lt_of_lt_of_le hlt hb.size, ?_⟩
  rw [hb.cell (p := ⟨b, o + k, none⟩) hlt, hc k (by omega), List.getElem?_map, List.getElem?_eq_getElem hk]
  rfl
/-! A tree cut to a number of nodes and a length of strings. -/
mutual
def cutD (long : Nat) : DT → Nat → DT × Nat
  | .mk kd n u s ks l, left => (.mk kd n u (s.take long) ((ks.take 64).map fun k => k.take long) (cutsD long l left).1, (cutsD long l left).2)
def cutsD (long : Nat) : List DT → Nat → List DT × Nat
  | [], left => ([], left)
  | _ :: _, 0 => ([], 0)
  | t :: ts, left + 1 => ((cutD long t left).1 :: (cutsD long ts (cutD long t left).2).1, (cutsD long ts (cutD long t left).2).2)
end
mutual
theorem cutD_size (long : Nat) : ∀ (T : DT) (left : Nat), sizeD (cutD long T left).1 + (cutD long T left).2 = left + 1
  | .mk kd n u s ks l, left => by
    rw [cutD, sizeD]
    have := cutsD_size long l left
    omega
theorem cutsD_size (long : Nat) : ∀ (l : List DT) (left : Nat), sizesD (cutsD long l left).1 + (cutsD long l left).2 = left
  | [], left => by rw [cutsD, sizesD]; omega
  | t :: ts, 0 => by rw [cutsD, sizesD]; omega
  | t :: ts, left + 1 => by
    rw [cutsD, sizesD]
    have := cutD_size long t left
    have := cutsD_size long ts (cutD long t left).2
    simp only []
    omega
end
theorem WfDs.at_ : ∀ {l : List DT}, WfDs l → ∀ t ∈ l, WfD t
  | t :: ts, h, x, hx => by
    rw [WfDs] at h
    rcases List.mem_cons.1 hx with rfl | hx
    · exact h.1
    · exact WfDs.at_ h.2 x hx
mutual
theorem cutD_wf (long : Nat) : ∀ (T : DT) (left : Nat), WfD T → WfD (cutD long T left).1
  | .mk kd n u s ks l, left, h => by
    rw [WfD] at h
    rw [cutD, WfD]
    obtain ⟨h1, h2, h3, h4, h5, h6⟩ := h
    refine ⟨h1, h2, h3, by rw [List.length_take]; omega, ?_, cutsD_wf long l left h6⟩
    intro k hk
    obtain ⟨x, hx, rfl⟩ := List.mem_map.1 hk
    have := h5 x (List.mem_of_mem_take hx)
    rw [List.length_take]
    omega
theorem cutsD_wf (long : Nat) : ∀ (l : List DT) (left : Nat), WfDs l → WfDs (cutsD long l left).1
  | [], left, h => by rw [cutsD]; exact h
  | t :: ts, 0, h => by rw [cutsD, WfDs]; trivial
  | t :: ts, left + 1, h => by
    rw [WfDs] at h
    rw [cutsD, WfDs]
    exact ⟨cutD_wf long t left h.1, cutsD_wf long ts _ h.2⟩
end
mutual
/-- What a cut tree's strings are. -/
def ShortD (long : Nat) : DT → Prop
  | .mk _ _ _ s ks l => s.length ≤ long ∧ ks.length ≤ 64 ∧ (∀ k ∈ ks, k.length ≤ long) ∧ ShortDs long l
def ShortDs (long : Nat) : List DT → Prop
  | [] => True
  | t :: ts => ShortD long t ∧ ShortDs long ts
end
mutual
theorem cutD_short (long : Nat) : ∀ (T : DT) (left : Nat), ShortD long (cutD long T left).1
  | .mk kd n u s ks l, left => by
    rw [cutD, ShortD]
    refine ⟨by rw [List.length_take]; omega, by simp; omega, ?_, cutsD_short long l left⟩
    intro k hk
    obtain ⟨x, hx, rfl⟩ := List.mem_map.1 hk
    rw [List.length_take]
    omega
theorem cutsD_short (long : Nat) : ∀ (l : List DT) (left : Nat), ShortDs long (cutsD long l left).1
  | [], left => by rw [cutsD, ShortDs]; trivial
  | t :: ts, 0 => by rw [cutsD, ShortDs]; trivial
  | t :: ts, left + 1 => by
    rw [cutsD, ShortDs]
    exact ⟨cutD_short long t left, cutsD_short long ts _⟩
end
mutual
theorem depth_size : ∀ T : DT, depthD T ≤ sizeD T
  | .mk _ _ _ _ _ l => by
    rw [depthD, sizeD]
    have := depths_size l
    omega
theorem depths_size : ∀ l : List DT, depthsD l ≤ sizesD l
  | [] => by rw [depthsD, sizesD]; omega
  | t :: ts => by
    rw [depthsD, sizesD]
    have := depth_size t
    have := depths_size ts
    have := sizeD_pos t
    have := sizesD_nonneg ts
    omega
end
theorem kids_size : ∀ l : List DT, (l.length : Int) ≤ sizesD l
  | [] => by rw [sizesD]; simp
  | t :: ts => by
    rw [sizesD, List.length_cons]
    have := kids_size ts
    have := sizeD_pos t
    push_cast
    omega
end
section
open Go.ChangeShapes Go.WideShapes Go.ChangeAt Go.RowKit
theorem cell_spot {w : World} {a : Addr} {v : Value} (h : w.cell? a = some v) : a = ⟨a.block, a.off, none⟩ ∧ a.block < w.heap.size := by
  obtain ⟨b, o, s⟩ := a
  unfold World.cell? at h
  simp only at h ⊢
  cases hx : w.heap[b]? with
  | none => rw [hx] at h; cases h
  | some ob =>
    refine ⟨?_, (Array.getElem?_eq_some_iff.1 hx).1⟩
    rw [hx] at h
    cases ob with
    | cells c ty fr =>
      cases s with
      | none => rfl
      | some y => simp at h
    | _ => cases h
section
variable {H : Type} {enc : TypeId × Value → H} {w : World} {held : Bool}
end
end
end
section
section
open Go.RowKit
theorem sub_run (l : List UInt8) (i j : Nat) (hij : i ≤ j) (hj : j ≤ l.length) (W : World) : (Instr.slice 9 (.string ⟨l.toArray⟩) (some (.int .i64 i)) (some (.int .i64 j)) none).run Tryz.prog W = .ok (.string ⟨((l.drop i).take (j - i)).toArray⟩) W := by
  refine (run_slice_string W 9 ⟨l.toArray⟩ .i64 .i64 i j Tryz.underlying9 (by omega) (by omega) (by simp [ByteArray.size]; omega)).trans ?_
  have e : (⟨l.toArray⟩ : ByteArray).extract i j = ⟨((l.drop i).take (j - i)).toArray⟩ := by
    apply ByteArray.ext
    rw [ByteArray.data_extract]
    apply Array.toList_inj.1
    simp
  simp only [Int.toNat_natCast, e]
theorem sub_from (l : List UInt8) (i : Nat) (hi : i ≤ l.length) (W : World) : (Instr.slice 9 (.string ⟨l.toArray⟩) (some (.int .i64 i)) none none).run Tryz.prog W = .ok (.string ⟨(l.drop i).toArray⟩) W := by
  refine (run_slice_string_l (w := W) (t := 9) (s := ⟨l.toArray⟩) Tryz.underlying9 .i64 i (by omega) (by simp [ByteArray.size]; omega)).trans ?_
  have e : (⟨l.toArray⟩ : ByteArray).extract i (⟨l.toArray⟩ : ByteArray).size = ⟨(l.drop i).toArray⟩ := by
    apply ByteArray.ext
    rw [ByteArray.data_extract]
    apply Array.toList_inj.1
    simp [ByteArray.size]
    rw [List.take_of_length_le (by rw [List.length_drop]; exact Nat.le_refl _)]
  simp only [Int.toNat_natCast, e]
theorem sub_to (l : List UInt8) (j : Nat) (hj : j ≤ l.length) (W : World) : (Instr.slice 9 (.string ⟨l.toArray⟩) none (some (.int .i64 j)) none).run Tryz.prog W = .ok (.string ⟨(l.take j).toArray⟩) W := by
  refine (run_slice_string_h (w := W) (t := 9) (s := ⟨l.toArray⟩) Tryz.underlying9 .i64 j (by omega) (by simp [ByteArray.size]; omega)).trans ?_
  have e : (⟨l.toArray⟩ : ByteArray).extract 0 j = ⟨(l.take j).toArray⟩ := by
    apply ByteArray.ext
    rw [ByteArray.data_extract]
    apply Array.toList_inj.1
    simp
  simp only [Int.toNat_natCast, e]
theorem arr_size (l : List UInt8) : (⟨l.toArray⟩ : ByteArray).size = l.length := by simp [ByteArray.size]
/-- R.Short. -/
theorem short_any (s : List UInt8) (most : Nat) (hs : s.length ≤ 9223372036854775807) (hm : most ≤ 1048576) (w : World) : Calls Tryz.prog 10 #[strV s, .int .i64 most] w fun e w' => e = .returned (strV (s.take most)) ∧ w = w' := by
  have hk : ∀ W : World, (Instr.slice 9 (.string ⟨s.toArray⟩) none (some (.int .i64 (min (s.length : Int) (most : Int)))) none).run Tryz.prog W = .ok (.string ⟨(s.take most).toArray⟩) W := by
    intro W
    have h := sub_to s (min s.length most) (by omega) W
    have e : ((min s.length most : Nat) : Int) = min (s.length : Int) (most : Int) := by omega
    have e2 : s.take (min s.length most) = s.take most := by
      by_cases h : s.length ≤ most
      · rw [Nat.min_eq_left h, List.take_of_length_le (Nat.le_refl _), List.take_of_length_le h]
      · rw [Nat.min_eq_right (by omega)]
    rw [e, e2] at h
    exact h
  have hz := arr_size s
  unfold strV
  go_enter Tryz.func10, Tryz.ntmps10
  go_wp2
  go_ret
  exact ⟨rfl, rfl⟩
theorem strInfo : (Tryz.prog.info? 9).map (fun i => (i.zero, i.size, i.bytes)) = some (some (.string ⟨#[]⟩), 1, 16) := by kernel_rfl
/-- A row of texts that is one's own. -/
def TxtRow (B : Nat) (w : World) (v : Value) (ks : List (List UInt8)) : Prop := w.ownsRow B 9 1 v ks.length (ks.map strV)
theorem TxtRow.nil (B : Nat) (w : World) : TxtRow B w (.slice none 0 0) [] := World.ownsRow_nil _ _ _ _
theorem TxtRow.below {B : Nat} {w w' : World} {v : Value} {ks : List (List UInt8)} (h : TxtRow B w v ks) (hb : Below w.heap.size w w') : TxtRow B w' v ks := own_below h hb
theorem one_one {s : ByteArray} : ∀ u ∈ [Value.string s], u.oneCell' = true := by
  intro u hu
  rw [List.mem_singleton.1 hu]
  rfl
theorem TxtRow.own {B : Nat} {w : World} {v : Value} {ks : List (List UInt8)} (h : TxtRow B w v ks) : w.ownsRow 0 9 1 v ks.length (ks.map strV) ∧ ∀ i ∈ blkL v, B ≤ i := by
  refine ⟨⟨h.1, ?_⟩, fun i hi => (h.lt i (mem_blk.1 hi)).1⟩
  rcases h.2 with hn | ⟨g, c, cur, h1, h2, rest⟩
  · exact .inl hn
  · exact .inr ⟨g, c, cur, h1, Nat.zero_le _, rest⟩
end
end
end Go.Proofs.YtccmhhmdenfecaaGreatDoor
