/- Trees that came in, as they read: no ownership. What the laws make of them: trees cut to a number of nodes. Strings cut short; rows of texts, and trees, cut and copied. -/
import Derived.Test.YtccmhhmdenfecaaGreatDoorT0
import Derived.ChangeArms
import Derived.DataReads
import Derived.BigQuiet
import Derived.Deep.RegionHeld3
namespace Go.Proofs.YtccmhhmdenfecaaGreatDoor
set_option linter.unusedVariables false
set_option linter.unusedSimpArgs false
set_option linter.unusedSectionVars false
section
section
open Go.RowKit
/-- A slice that reads as n elements of sz cells. -/
def Rd (w : World) (v : Value) (sz n : Nat) (xs : List Value) : Prop :=
  ∃ A c, v = .slice A n c ∧ n ≤ 9223372036854775807 ∧ xs.length = n * sz ∧ (A = none → c = 0) ∧ (0 < n → ∃ b o, A = some ⟨b, o, none⟩ ∧ b < w.heap.size ∧ ∀ j, j < n * sz → w.cell? ⟨b, o + j, none⟩ = xs[j]?)
theorem Rd.below {w w' : World} {v : Value} {sz n : Nat} {xs : List Value} (h : Rd w v sz n xs) (hb : Below w.heap.size w w') : Rd w' v sz n xs := by
  obtain ⟨A, c, h1, h2, h3, h5, h4⟩ := h
  refine ⟨A, c, h1, h2, h3, h5, fun hn => ?_⟩
  obtain ⟨b, o, e1, e2, e3⟩ := h4 hn
  exact ⟨b, o, e1, Nat.lt_of_lt_of_le e2 hb.size, fun j hj => (hb.cell (p := ⟨b, o + j, none⟩) e2).trans (e3 j hj)⟩
theorem Rd.of_owns {w : World} {B : Nat} {e : TypeId} {sz n : Nat} {v : Value} {xs : List Value} (h : w.ownsRow B e sz v n xs) : Rd w v sz n xs := by
  obtain ⟨A, c, rfl, -⟩ := slice_form h
  refine ⟨A, c, rfl, row_bound h, h.1, fun hA => ?_, fun hn => ?_⟩
  · subst hA
    rcases h.2 with ⟨h1, -⟩ | ⟨g, c', cur, h1, -⟩
    · injection h1
    · injection h1 with h1 _ _; cases h1
  obtain ⟨g, rfl, hg, hc⟩ := row_cell h hn
  exact ⟨g, 0, rfl, hg, fun j hj => by rw [Nat.zero_add]; exact hc j hj⟩
/-- The cells of a row that reads. -/
theorem Rd.cells {w : World} {A : Option Addr} {m c sz n : Nat} {xs : List Value} (h : Rd w (.slice A m c) sz n xs) (hn : 0 < n) : ∃ b o, A = some ⟨b, o, none⟩ ∧ b < w.heap.size ∧ ∀ j, j < n * sz → w.cell? ⟨b, o + j, none⟩ = xs[j]? := by
  obtain ⟨A', c', h1, -, -, -, h4⟩ := h
  injection h1 with h1 h2 h3
  subst h1
  exact h4 hn
theorem Rd.form {w : World} {v : Value} {sz n : Nat} {xs : List Value} (h : Rd w v sz n xs) : ∃ A c, v = .slice A n c := by
  obtain ⟨A', c', h1, -⟩ := h
  exact ⟨A', c', h1⟩
theorem Rd.bound {w : World} {v : Value} {sz n : Nat} {xs : List Value} (h : Rd w v sz n xs) : n ≤ 9223372036854775807 := by
  obtain ⟨A', c', -, h2, -⟩ := h
  exact h2
theorem Rd.nil {w : World} {m c sz n : Nat} {xs : List Value} (h : Rd w (.slice Option.none m c) sz n xs) : m = 0 ∧ n = 0 ∧ c = 0 := by
  obtain ⟨A', c', h1, -, -, h2, h3⟩ := h
  injection h1 with h1 h4 h5
  have h0 := h2 h1.symm
  have : n = 0 := by
    cases n with
    | zero => rfl
    | succ n =>
      obtain ⟨b, o, e, -⟩ := h3 (by omega)
      rw [← h1] at e
      cases e
  exact ⟨by omega, this, by omega⟩
theorem Rd.len {w : World} {v : Value} {sz n : Nat} {xs : List Value} (h : Rd w v sz n xs) : xs.length = n * sz := by
  obtain ⟨A', c', -, -, h2, -⟩ := h
  exact h2
def in64 (n : Int) : Prop := -9223372036854775808 ≤ n ∧ n ≤ 9223372036854775807
def inU (n : Int) : Prop := 0 ≤ n ∧ n ≤ 18446744073709551615
mutual
/-- The numbers of a tree fit. -/
def WfD : DT → Prop
  | .mk kd n u s ks l => in64 kd ∧ in64 n ∧ inU u ∧ s.length ≤ 9223372036854775807 ∧ (∀ k ∈ ks, k.length ≤ 9223372036854775807) ∧ WfDs l
def WfDs : List DT → Prop
  | [] => True
  | t :: ts => WfD t ∧ WfDs ts
end
mutual
/-- The cells of a node as it reads. -/
def RRep (w : World) : DT → List Value → Prop
  | .mk kd n u s ks l, cs => ∃ kv lv xs, cs = nodeC kd n u s kv lv ∧ Rd w kv 1 ks.length (ks.map strV) ∧ Rd w lv 6 l.length xs ∧ RReps w l xs
def RReps (w : World) : List DT → List Value → Prop
  | [], xs => xs = []
  | t :: ts, xs => ∃ c xs', RRep w t c ∧ RReps w ts xs' ∧ xs = c ++ xs'
end
mutual
theorem RRep.below {w w' : World} (hb : Below w.heap.size w w') : ∀ (T : DT) (cs : List Value), RRep w T cs → RRep w' T cs
  | .mk kd n u s ks l, cs, h => by
    rw [RRep] at h ⊢
    obtain ⟨kv, lv, xs, h1, h2, h3, h4⟩ := h
    exact ⟨kv, lv, xs, h1, h2.below hb, h3.below hb, RReps.below hb l xs h4⟩
theorem RReps.below {w w' : World} (hb : Below w.heap.size w w') : ∀ (l : List DT) (xs : List Value), RReps w l xs → RReps w' l xs
  | [], xs, h => by rw [RReps] at h ⊢; exact h
  | t :: ts, xs, h => by
    rw [RReps] at h ⊢
    obtain ⟨c, xs', h1, h2, h3⟩ := h
    exact ⟨c, xs', RRep.below hb t c h1, RReps.below hb ts xs' h2, h3⟩
end
mutual
theorem NRep.reads {w : World} : ∀ (T : DT) (cs : List Value) (bs : List Nat), NRep w T cs bs → RRep w T cs
  | .mk kd n u s ks l, cs, bs, h => by
    rw [NRep] at h
    rw [RRep]
    obtain ⟨kv, lv, xs, bl, h1, h2, h3, h4, -⟩ := h
    exact ⟨kv, lv, xs, h1, Rd.of_owns h2, Rd.of_owns h3, NReps.reads l xs bl h4⟩
theorem NReps.reads {w : World} : ∀ (l : List DT) (xs : List Value) (bs : List Nat), NReps w l xs bs → RReps w l xs
  | [], xs, bs, h => by rw [NReps] at h; rw [RReps]; exact h.1
  | t :: ts, xs, bs, h => by
    rw [NReps] at h
    rw [RReps]
    obtain ⟨c, b, xs', bs', h1, h2, h3, -⟩ := h
    exact ⟨c, xs', NRep.reads t c b h1, NReps.reads ts xs' bs' h2, h3⟩
end
/-- The six cells of a node that reads, by name. -/
theorem RRep.form {w : World} {kd n u : Int} {s : List UInt8} {ks : List (List UInt8)} {l : List DT} {cs : List Value} (h : RRep w (.mk kd n u s ks l) cs) :
    ∃ A1 c1 A2 c2 xs, cs = [.int .i64 kd, .int .i64 n, .int .u64 u, strV s, .slice A1 ks.length c1, .slice A2 l.length c2] ∧ Rd w (.slice A1 ks.length c1) 1 ks.length (ks.map strV) ∧ Rd w (.slice A2 l.length c2) 6 l.length xs ∧ RReps w l xs := by
  rw [RRep] at h
  obtain ⟨kv, lv, xs, h1, h2, h3, h4⟩ := h
  obtain ⟨A1, c1, rfl⟩ := h2.form
  obtain ⟨A2, c2, rfl⟩ := h3.form
  exact ⟨A1, c1, A2, c2, xs, h1, h2, h3, h4⟩
theorem RRep.cs6 {w : World} {T : DT} {cs : List Value} (h : RRep w T cs) : ∃ kd n u s A1 m1 c1 A2 m2 c2, cs = [.int .i64 kd, .int .i64 n, .int .u64 u, .string s, .slice A1 m1 c1, .slice A2 m2 c2] := by
  obtain ⟨kd, n, u, s, ks, l⟩ := T
  obtain ⟨A1, c1, A2, c2, xs, h1, -⟩ := h.form
  exact ⟨_, _, _, _, _, _, _, _, _, _, h1⟩
theorem RReps.at_ {w : World} : ∀ (l : List DT) (xs : List Value) (i : Nat) (hi : i < l.length), RReps w l xs →
    ∃ v0 v1 v2 v3 v4 v5, RRep w l[i] [v0, v1, v2, v3, v4, v5] ∧ xs[i * 6]? = some v0 ∧ xs[i * 6 + 1]? = some v1 ∧ xs[i * 6 + 2]? = some v2 ∧ xs[i * 6 + 3]? = some v3 ∧ xs[i * 6 + 4]? = some v4 ∧ xs[i * 6 + 5]? = some v5
  | t :: ts, xs, 0, _, h => by
    rw [RReps] at h
    obtain ⟨c, xs', h1, h2, rfl⟩ := h
    obtain ⟨_, _, _, _, _, _, _, _, _, _, rfl⟩ := h1.cs6
    exact ⟨_, _, _, _, _, _, h1, rfl, rfl, rfl, rfl, rfl, rfl⟩
  | t :: ts, xs, i + 1, hi, h => by
    rw [RReps] at h
    obtain ⟨c, xs', h1, h2, rfl⟩ := h
    obtain ⟨kd, n, u, s, A1, m1, c1, A2, m2, c2, rfl⟩ := h1.cs6
    obtain ⟨v0, v1, v2, v3, v4, v5, g, g0, g1, g2, g3, g4, g5⟩ := RReps.at_ ts xs' i (by simpa using hi) h2
    have hs : ∀ j, ([Value.int .i64 kd, .int .i64 n, .int .u64 u, .string s, .slice A1 m1 c1, .slice A2 m2 c2] ++ xs')[(i + 1) * 6 + j]? = xs'[i * 6 + j]? := by
      intro j
      rw [List.getElem?_append_right (by simp; omega)]
      congr 1
      simp
      omega
    exact ⟨v0, v1, v2, v3, v4, v5, g, (hs 0).trans g0, (hs 1).trans g1, (hs 2).trans g2, (hs 3).trans g3, (hs 4).trans g4, (hs 5).trans g5⟩
/-- A child of a tree that reads: its six cells where they lie, in whatever world the blocks still stand. -/
theorem RReps.kid {w0 : World} {l : List DT} {xs : List Value} {A : Option Addr} {m c : Nat} (hx : RReps w0 l xs) (h : Rd w0 (.slice A m c) 6 l.length xs) {w : World} (hb : Below w0.heap.size w0 w) (k : Nat) (hk : k < l.length) :
    ∃ b o kd n u s A1 m1 c1 A2 m2 c2, A = some ⟨b, o, none⟩ ∧ b < w0.heap.size ∧ b < w.heap.size ∧ RRep w0 l[k] [.int .i64 kd, .int .i64 n, .int .u64 u, .string s, .slice A1 m1 c1, .slice A2 m2 c2] ∧
      w.cell? ⟨b, o + k * 6, none⟩ = some (.int .i64 kd) ∧ w.cell? ⟨b, o + k * 6 + 1, none⟩ = some (.int .i64 n) ∧ w.cell? ⟨b, o + k * 6 + 2, none⟩ = some (.int .u64 u) ∧ w.cell? ⟨b, o + k * 6 + 3, none⟩ = some (.string s) ∧ w.cell? ⟨b, o + k * 6 + 4, none⟩ = some (.slice A1 m1 c1) ∧ w.cell? ⟨b, o + k * 6 + 5, none⟩ = some (.slice A2 m2 c2) := by
  obtain ⟨b, o, rfl, hlt, hc⟩ := h.cells (by omega)
  obtain ⟨v0, v1, v2, v3, v4, v5, h1, e0, e1, e2, e3, e4, e5⟩ := RReps.at_ l xs k hk hx
  obtain ⟨kd, n, u, s, A1, m1, c1, A2, m2, c2, hcs⟩ := h1.cs6
  simp only [List.cons.injEq, and_true] at hcs
  obtain ⟨rfl, rfl, rfl, rfl, rfl, rfl⟩ := hcs
  have at_ : ∀ j, j < 6 → ∀ v, xs[k * 6 + j]? = some v → w.cell? ⟨b, o + k * 6 + j, none⟩ = some v := by
    intro j hj v hv
    rw [hb.cell (p := ⟨b, o + k * 6 + j, none⟩) hlt, Nat.add_assoc, hc (k * 6 + j) (by omega)]
    exact hv
  exact ⟨b, o, kd, n, u, s, A1, m1, c1, A2, m2, c2, rfl, hlt, Nat.lt_of_lt_of_le hlt hb.size, h1, at_ 0 (by omega) _ e0, at_ 1 (by omega) _ e1, at_ 2 (by omega) _ e2, at_ 3 (by omega) _ e3, at_ 4 (by omega) _ e4, at_ 5 (by omega) _ e5⟩
/-- A text of a row of texts that reads. -/
theorem Rd.text {w0 : World} {ks : List (List UInt8)} {A : Option Addr} {m c : Nat} (h : Rd w0 (.slice A m c) 1 ks.length (ks.map strV)) {w : World} (hb : Below w0.heap.size w0 w) (k : Nat) (hk : k < ks.length) :
    ∃ b o, A = some ⟨b, o, none⟩ ∧ b < w0.heap.size ∧ b < w.heap.size ∧ w.cell? ⟨b, o + k, none⟩ = some (.string ⟨ks[k].toArray⟩) := by
  obtain ⟨b, o, rfl, hlt, hc⟩ := h.cells (by omega)
  refine ⟨b, o, rfl, hlt, Nat.lt_of_lt_of_le hlt hb.size, ?_⟩
  rw [hb.cell (p := ⟨b, o + k, none⟩) hlt, hc k (by omega), List.getElem?_map, List.getElem?_eq_getElem hk]
  rfl
/-! A tree cut to a number of nodes and a length of strings. -/
mutual
def cutD (long : Nat) : DT → Nat → DT × Nat
  | .mk kd n u s ks l, left => (.mk kd n u (s.take long) ((ks.take 64).map fun k => k.take long) (cutsD long l left).1, (cutsD long l left).2)
def cutsD (long : Nat) : List DT → Nat → List DT × Nat
  | [], left => ([], left)
  | _ :: _, 0 => ([], 0)
  | t :: ts, left + 1 => ((cutD long t left).1 :: (cutsD long ts (cutD long t left).2).1, (cutsD long ts (cutD long t left).2).2)
end
mutual
theorem cutD_size (long : Nat) : ∀ (T : DT) (left : Nat), sizeD (cutD long T left).1 + (cutD long T left).2 = left + 1
  | .mk kd n u s ks l, left => by
    rw [cutD, sizeD]
    have := cutsD_size long l left
    omega
theorem cutsD_size (long : Nat) : ∀ (l : List DT) (left : Nat), sizesD (cutsD long l left).1 + (cutsD long l left).2 = left
  | [], left => by rw [cutsD, sizesD]; omega
  | t :: ts, 0 => by rw [cutsD, sizesD]; omega
  | t :: ts, left + 1 => by
    rw [cutsD, sizesD]
    have := cutD_size long t left
    have := cutsD_size long ts (cutD long t left).2
    simp only []
    omega
end
/-- The loop's view: what k children leave. -/
theorem cutsD_go (long : Nat) : ∀ (l : List DT) (left k : Nat), k < l.length → (cutsD long (l.take k) left).1.length = k → 0 < (cutsD long (l.take k) left).2 → ∀ (hk : k < l.length),
    cutsD long (l.take (k + 1)) left = ((cutsD long (l.take k) left).1 ++ [(cutD long l[k] ((cutsD long (l.take k) left).2 - 1)).1], (cutD long l[k] ((cutsD long (l.take k) left).2 - 1)).2)
  | [], left, k, h, _, _, _ => by simp at h
  | t :: ts, left, 0, _, _, h, _ => by
    simp only [List.take_zero, cutsD] at h ⊢
    obtain ⟨m, rfl⟩ : ∃ m, left = m + 1 := ⟨left - 1, by omega⟩
    simp [cutsD]
  | t :: ts, 0, k + 1, _, h, _, _ => by simp [cutsD] at h
  | t :: ts, left + 1, k + 1, h, h1, h2, hk => by
    simp only [List.take_succ_cons, cutsD, List.length_cons, List.getElem_cons_succ] at h1 h2 ⊢
    rw [cutsD_go long ts _ k (by simpa using h) (by omega) h2 (by simpa using hk)]
    rfl
theorem cutsD_stop (long : Nat) : ∀ (l : List DT) (left k : Nat), k ≤ l.length → (cutsD long (l.take k) left).1.length = k → (k = l.length ∨ (cutsD long (l.take k) left).2 = 0) → cutsD long l left = cutsD long (l.take k) left
  | [], left, k, h, _, _ => by simp
  | t :: ts, left, 0, _, _, h => by
    rcases h with h | h
    · simp at h
    · simp only [List.take_zero, cutsD] at h ⊢
      subst h
      rw [cutsD]
  | t :: ts, 0, k + 1, _, h, _ => by simp [cutsD] at h
  | t :: ts, left + 1, k + 1, h, h1, h2 => by
    simp only [List.take_succ_cons, cutsD, List.length_cons, List.getElem_cons_succ] at h1 h2 ⊢
    rw [cutsD_stop long ts _ k (by simpa using h) (by omega) (by simpa using h2)]
theorem WfDs.at_ : ∀ {l : List DT}, WfDs l → ∀ t ∈ l, WfD t
  | t :: ts, h, x, hx => by
    rw [WfDs] at h
    rcases List.mem_cons.1 hx with rfl | hx
    · exact h.1
    · exact WfDs.at_ h.2 x hx
mutual
theorem cutD_wf (long : Nat) : ∀ (T : DT) (left : Nat), WfD T → WfD (cutD long T left).1
  | .mk kd n u s ks l, left, h => by
    rw [WfD] at h
    rw [cutD, WfD]
    obtain ⟨h1, h2, h3, h4, h5, h6⟩ := h
    refine ⟨h1, h2, h3, by rw [List.length_take]; omega, ?_, cutsD_wf long l left h6⟩
    intro k hk
    obtain ⟨x, hx, rfl⟩ := List.mem_map.1 hk
    have := h5 x (List.mem_of_mem_take hx)
    rw [List.length_take]
    omega
theorem cutsD_wf (long : Nat) : ∀ (l : List DT) (left : Nat), WfDs l → WfDs (cutsD long l left).1
  | [], left, h => by rw [cutsD]; exact h
  | t :: ts, 0, h => by rw [cutsD, WfDs]; trivial
  | t :: ts, left + 1, h => by
    rw [WfDs] at h
    rw [cutsD, WfDs]
    exact ⟨cutD_wf long t left h.1, cutsD_wf long ts _ h.2⟩
end
mutual
/-- What a cut tree's strings are. -/
def ShortD (long : Nat) : DT → Prop
  | .mk _ _ _ s ks l => s.length ≤ long ∧ ks.length ≤ 64 ∧ (∀ k ∈ ks, k.length ≤ long) ∧ ShortDs long l
def ShortDs (long : Nat) : List DT → Prop
  | [] => True
  | t :: ts => ShortD long t ∧ ShortDs long ts
end
mutual
theorem cutD_short (long : Nat) : ∀ (T : DT) (left : Nat), ShortD long (cutD long T left).1
  | .mk kd n u s ks l, left => by
    rw [cutD, ShortD]
    refine ⟨by rw [List.length_take]; omega, by simp; omega, ?_, cutsD_short long l left⟩
    intro k hk
    obtain ⟨x, hx, rfl⟩ := List.mem_map.1 hk
    rw [List.length_take]
    omega
theorem cutsD_short (long : Nat) : ∀ (l : List DT) (left : Nat), ShortDs long (cutsD long l left).1
  | [], left => by rw [cutsD, ShortDs]; trivial
  | t :: ts, 0 => by rw [cutsD, ShortDs]; trivial
  | t :: ts, left + 1 => by
    rw [cutsD, ShortDs]
    exact ⟨cutD_short long t left, cutsD_short long ts _⟩
end
mutual
theorem depth_size : ∀ T : DT, depthD T ≤ sizeD T
  | .mk _ _ _ _ _ l => by
    rw [depthD, sizeD]
    have := depths_size l
    omega
theorem depths_size : ∀ l : List DT, depthsD l ≤ sizesD l
  | [] => by rw [depthsD, sizesD]; omega
  | t :: ts => by
    rw [depthsD, sizesD]
    have := depth_size t
    have := depths_size ts
    have := sizeD_pos t
    have := sizesD_nonneg ts
    omega
end
theorem kids_size : ∀ l : List DT, (l.length : Int) ≤ sizesD l
  | [] => by rw [sizesD]; simp
  | t :: ts => by
    rw [sizesD, List.length_cons]
    have := kids_size ts
    have := sizeD_pos t
    push_cast
    omega
end
section
open Go.ChangeShapes Go.WideShapes Go.ChangeAt Go.RowKit
theorem nodeFields : ∃ fs : Array Field, Tryz.prog.underlying 27 = some (.struct fs) ∧ fs.size = 6 ∧ (fs.toList.map fun f => (f.offset, f.type)) = [(0, 3), (1, 2), (2, 23), (3, 9), (4, 24), (5, 25)] := by
  exact ⟨_, Tryz.underlying27, by kernel_rfl, by kernel_rfl⟩
theorem wf64 {n : Int} (h : (Lit.int .i64 n).wf = true) : in64 n := by
  simp [Lit.wf, IntKind.min, IntKind.max, IntKind.signed, IntKind.bits] at h
  unfold in64
  omega
theorem wfU {n : Int} (h : (Lit.int .u64 n).wf = true) : inU n := by
  simp [Lit.wf, IntKind.min, IntKind.max, IntKind.signed, IntKind.bits] at h
  unfold inU
  omega
theorem cell_spot {w : World} {a : Addr} {v : Value} (h : w.cell? a = some v) : a = ⟨a.block, a.off, none⟩ ∧ a.block < w.heap.size := by
  obtain ⟨b, o, s⟩ := a
  unfold World.cell? at h
  simp only at h ⊢
  cases hx : w.heap[b]? with
  | none => rw [hx] at h; cases h
  | some ob =>
    refine ⟨?_, (Array.getElem?_eq_some_iff.1 hx).1⟩
    rw [hx] at h
    cases ob with
    | cells c ty fr =>
      cases s with
      | none => rfl
      | some y => simp at h
    | _ => cases h
theorem add_off (b o k : Nat) : (⟨b, o, none⟩ : Addr).add k = ⟨b, o + k, none⟩ := by
  unfold Addr.add
  split
  · rename_i h; subst h; rfl
  · rfl
theorem str_len {s : ByteArray} (h : s.size ≤ maxLen) : s.data.toList.length ≤ 9223372036854775807 := by
  unfold maxLen at h
  rw [Array.length_toList]
  exact h
section
variable {H : Type} {enc : TypeId × Value → H} {w : World} {held : Bool}
/-- A slice of texts that came in. -/
theorem open_texts {fuel : Nat} {v : Value} {x : DataW H × List MemPlace} (h : DataW.trod enc Tryz.prog w 0 (fun _ => true) held fuel 24 [v] = some x) :
    ∃ ks : List (List UInt8), Rd w v 1 ks.length (ks.map strV) ∧ ∀ k ∈ ks, k.length ≤ 9223372036854775807 := by
  rcases DataW.trod_slice Tryz.underlying24 h with ⟨hcs, _⟩ | ⟨a, len, cap, elems, rest, n, _, hcs, _, _, hl, hm, hlen, hel, _⟩
  · injection hcs with hcs
    exact ⟨[], ⟨none, 0, hcs, by simp, rfl, fun _ => rfl, fun h => absurd h (by simp)⟩, by simp⟩
  · injection hcs with hcs
    have hco : Tryz.prog.cellsOf 9 = 1 := by kernel_rfl
    have each : ∀ i, i < len → ∃ k : List UInt8, w.cell? (a.add i) = some (strV k) ∧ k.length ≤ 9223372036854775807 := by
      intro i hi
      have he := hel i hi
      have hy : elems[i]? = some (elems[i]'(by omega)) := List.getElem?_eq_getElem (by omega)
      rw [hy, hco, Nat.mul_one] at he
      obtain ⟨cs, hcs2, ht⟩ := Option.bind_eq_some_iff.1 he
      obtain ⟨_, hlen2, hcell⟩ := World.cells?_some hcs2
      obtain ⟨s, rfl, -, hs⟩ := DataW.trod_string Tryz.underlying9 ht
      have h0 := hcell 0 (by omega)
      refine ⟨s.data.toList, ?_, str_len hs⟩
      have e0 : (a.add i).add 0 = a.add i := by simp [Addr.add]
      rw [e0] at h0
      rw [h0]
      rfl
    have hb : len ≤ 9223372036854775807 := by unfold maxLen at hm; omega
    obtain ⟨f, hf⟩ : ∃ f : Nat → List UInt8, ∀ i, i < len → w.cell? (a.add i) = some (strV (f i)) ∧ (f i).length ≤ 9223372036854775807 :=
      ⟨fun i => if hi : i < len then (each i hi).choose else [], fun i hi => by simp only [hi, dif_pos]; exact (each i hi).choose_spec⟩
    refine ⟨(List.range len).map f, ⟨some a, cap, by rw [hcs]; simp, by simpa using hb, by simp, (fun h => by cases h), fun h0 => ?_⟩, ?_⟩
    · have hl0 : 0 < len := by simpa using h0
      have hc0 := (hf 0 hl0).1
      have ea : a.add 0 = a := by simp [Addr.add]
      rw [ea] at hc0
      obtain ⟨e1, e2⟩ := cell_spot hc0
      refine ⟨a.block, a.off, by rw [← e1], e2, fun j hj => ?_⟩
      have hj' : j < len := by simpa using hj
      have := (hf j hj').1
      rw [e1, add_off] at this
      rw [this]
      simp [hj']
    · intro k hk
      obtain ⟨i, hi, rfl⟩ := List.mem_map.1 hk
      exact (hf i (by simpa using hi)).2
theorem reps_of {len : Nat} (f : Nat → DT) (g : Nat → List Value) : ∀ (k : Nat), k ≤ len → (∀ i, i < len → RRep w (f i) (g i)) → RReps w ((List.range' (len - k) k).map f) ((List.range' (len - k) k).flatMap g)
  | 0, _, _ => by simp [RReps]
  | k + 1, hk, h => by
    have e : len - (k + 1) + 1 = len - k := by omega
    rw [List.range'_succ, e, List.map_cons, List.flatMap_cons, RReps]
    exact ⟨g (len - (k + 1)), _, h _ (by omega), reps_of f g k (by omega) h, rfl⟩
theorem flat_six (g : Nat → List Value) (hg : ∀ i, (g i).length = 6) : ∀ (n s : Nat), ((List.range' s n).flatMap g).length = n * 6 ∧ ∀ i j, i < n → j < 6 → ((List.range' s n).flatMap g)[i * 6 + j]? = (g (s + i))[j]?
  | 0, s => ⟨by simp, fun i j h => by omega⟩
  | n + 1, s => by
    obtain ⟨h1, h2⟩ := flat_six g hg n (s + 1)
    rw [List.range'_succ, List.flatMap_cons]
    refine ⟨by rw [List.length_append, h1, hg]; omega, fun i j hi hj => ?_⟩
    cases i with
    | zero =>
      rw [List.getElem?_append_left (by rw [hg]; omega)]
      simp
    | succ i =>
      rw [List.getElem?_append_right (by rw [hg]; omega), hg, show (i + 1) * 6 + j - 6 = i * 6 + j by omega, h2 i j (by omega) hj]
      congr 2
      omega
set_option maxRecDepth 100000 in
/-- A node that came in reads as a tree. -/
theorem open_node : ∀ (fuel : Nat) (cs : List Value) (x : DataW H × List MemPlace), DataW.trod enc Tryz.prog w 0 (fun _ => true) held fuel 27 cs = some x → ∃ T, RRep w T cs ∧ WfD T := by
  intro fuel
  induction fuel using Nat.strongRecOn with
  | _ fuel ih =>
    intro cs x h
    obtain ⟨ys, n, hfu, -, hcl, hyl, hf⟩ := DataW.trod_struct Tryz.underlying27 h
    have hco : Tryz.prog.cellsOf 27 = 6 := by kernel_rfl
    have hc1 : Tryz.prog.cellsOf 3 = 1 := by kernel_rfl
    have hc2 : Tryz.prog.cellsOf 2 = 1 := by kernel_rfl
    have hc3 : Tryz.prog.cellsOf 23 = 1 := by kernel_rfl
    have hc4 : Tryz.prog.cellsOf 9 = 1 := by kernel_rfl
    have hc5 : Tryz.prog.cellsOf 24 = 1 := by kernel_rfl
    have hc6 : Tryz.prog.cellsOf 25 = 1 := by kernel_rfl
    rw [hco] at hcl
    have hys : ys.length = 6 := hyl
    obtain ⟨c0, c1, c2, c3, c4, c5, rfl⟩ : ∃ c0 c1 c2 c3 c4 c5, cs = [c0, c1, c2, c3, c4, c5] := by
      clear hf h ih
      match cs, hcl with
      | [c0, c1, c2, c3, c4, c5], _ => exact ⟨c0, c1, c2, c3, c4, c5, rfl⟩
    have g0 : DataW.trod enc Tryz.prog w 0 (fun _ => true) held n 3 (([c0, c1, c2, c3, c4, c5].drop 0).take (Tryz.prog.cellsOf 3)) = ys[0]? := hf 0 _ rfl
    have g1 : DataW.trod enc Tryz.prog w 0 (fun _ => true) held n 2 (([c0, c1, c2, c3, c4, c5].drop 1).take (Tryz.prog.cellsOf 2)) = ys[1]? := hf 1 _ rfl
    have g2 : DataW.trod enc Tryz.prog w 0 (fun _ => true) held n 23 (([c0, c1, c2, c3, c4, c5].drop 2).take (Tryz.prog.cellsOf 23)) = ys[2]? := hf 2 _ rfl
    have g3 : DataW.trod enc Tryz.prog w 0 (fun _ => true) held n 9 (([c0, c1, c2, c3, c4, c5].drop 3).take (Tryz.prog.cellsOf 9)) = ys[3]? := hf 3 _ rfl
    have g4 : DataW.trod enc Tryz.prog w 0 (fun _ => true) held n 24 (([c0, c1, c2, c3, c4, c5].drop 4).take (Tryz.prog.cellsOf 24)) = ys[4]? := hf 4 _ rfl
    have g5 : DataW.trod enc Tryz.prog w 0 (fun _ => true) held n 25 (([c0, c1, c2, c3, c4, c5].drop 5).take (Tryz.prog.cellsOf 25)) = ys[5]? := hf 5 _ rfl
    have y0 : ys[0]? = some (ys[0]'(by omega)) := List.getElem?_eq_getElem (by omega)
    have y1 : ys[1]? = some (ys[1]'(by omega)) := List.getElem?_eq_getElem (by omega)
    have y2 : ys[2]? = some (ys[2]'(by omega)) := List.getElem?_eq_getElem (by omega)
    have y3 : ys[3]? = some (ys[3]'(by omega)) := List.getElem?_eq_getElem (by omega)
    have y4 : ys[4]? = some (ys[4]'(by omega)) := List.getElem?_eq_getElem (by omega)
    have y5 : ys[5]? = some (ys[5]'(by omega)) := List.getElem?_eq_getElem (by omega)
    rw [y0] at g0
    rw [y1] at g1
    rw [y2] at g2
    rw [y3] at g3
    rw [y4] at g4
    rw [y5] at g5
    simp only [hc1, hc2, hc3, hc4, hc5, hc6, List.drop_succ_cons, List.drop_zero, List.take_succ_cons, List.take_zero] at g0 g1 g2 g3 g4 g5
    obtain ⟨kd, b0, -, w0⟩ := DataW.trod_int Tryz.underlying3 g0
    obtain ⟨nn, b1, -, w1⟩ := DataW.trod_int Tryz.underlying2 g1
    obtain ⟨uu, b2, -, w2⟩ := DataW.trod_int Tryz.underlying23 g2
    obtain ⟨s, b3, -, w3⟩ := DataW.trod_string Tryz.underlying9 g3
    simp only [List.cons.injEq, and_true] at b0 b1 b2 b3
    subst b0 b1 b2 b3
    obtain ⟨ks, hk, hkl⟩ := open_texts g4
    have hsl : s.data.toList.length ≤ 9223372036854775807 := str_len w3
    rcases DataW.trod_slice Tryz.underlying25 g5 with ⟨hcs, _⟩ | ⟨a, len, cap, elems, rest, n', hn', hcs, _, _, hl, hm, hlen, hel, _⟩
    · injection hcs with hcs
      subst hcs
      exact ⟨.mk kd nn uu s.data.toList ks [], by rw [RRep]; exact ⟨c4, _, [], rfl, hk, ⟨none, 0, rfl, by simp, rfl, fun _ => rfl, fun h => absurd h (by simp)⟩, by rw [RReps]⟩, by rw [WfD, WfDs]; exact ⟨wf64 w0, wf64 w1, wfU w2, hsl, hkl, trivial⟩⟩
    · injection hcs with hcs
      subst hcs
      have each : ∀ i, i < len → ∃ (T : DT) (cs : List Value), RRep w T cs ∧ WfD T ∧ cs.length = 6 ∧ ∀ j, j < 6 → w.cell? (a.add (i * 6 + j)) = cs[j]? := by
        intro i hi
        have he := hel i hi
        have hy : elems[i]? = some (elems[i]'(by omega)) := List.getElem?_eq_getElem (by omega)
        rw [hy, hco] at he
        obtain ⟨cs, hcs2, ht⟩ := Option.bind_eq_some_iff.1 he
        obtain ⟨_, hlen2, hcell⟩ := World.cells?_some hcs2
        obtain ⟨T, hT, hW⟩ := ih n' (by omega) cs _ ht
        refine ⟨T, cs, hT, hW, hlen2, fun j hj => ?_⟩
        have := hcell j hj
        have e : (a.add (i * 6)).add j = a.add (i * 6 + j) := by
          unfold Addr.add
          by_cases h1 : i * 6 = 0 <;> by_cases h2 : j = 0 <;> simp [h1, h2] <;> omega
        rwa [e] at this
      have hb : len ≤ 9223372036854775807 := by unfold maxLen at hm; omega
      obtain ⟨f, g, hfg⟩ : ∃ (f : Nat → DT) (g : Nat → List Value), ∀ i, (i < len → RRep w (f i) (g i) ∧ WfD (f i) ∧ ∀ j, j < 6 → w.cell? (a.add (i * 6 + j)) = (g i)[j]?) ∧ (g i).length = 6 :=
        ⟨fun i => if hi : i < len then (each i hi).choose else .mk 0 0 0 [] [] [], fun i => if hi : i < len then (each i hi).choose_spec.choose else [.nilFunc, .nilFunc, .nilFunc, .nilFunc, .nilFunc, .nilFunc], fun i => by
          by_cases hi : i < len
          · simp only [hi, dif_pos, forall_const]
            obtain ⟨q1, q2, q3, q4⟩ := (each i hi).choose_spec.choose_spec
            exact ⟨⟨q1, q2, q4⟩, q3⟩
          · simp [hi]⟩
      have hr := reps_of (w := w) f g len (Nat.le_refl _) (fun i hi => ((hfg i).1 hi).1)
      rw [Nat.sub_self] at hr
      obtain ⟨hfl, hfx⟩ := flat_six g (fun i => (hfg i).2) len 0
      have hwf : ∀ (l : List Nat), (∀ i ∈ l, i < len) → WfDs (l.map f) := by
        intro l
        induction l with
        | nil => intro _; rw [List.map_nil, WfDs]; trivial
        | cons y l ih => intro hh; rw [List.map_cons, WfDs]; exact ⟨((hfg y).1 (hh y (by simp))).2.1, ih fun i hi => hh i (by simp [hi])⟩
      refine ⟨.mk kd nn uu s.data.toList ks ((List.range' 0 len).map f), by
        rw [RRep]
        refine ⟨c4, _, _, rfl, hk, ⟨some a, cap, by simp, by simpa using hb, by rw [hfl]; simp, (fun h => by cases h), fun h0 => ?_⟩, hr⟩
        have hl0 : 0 < len := by simpa using h0
        have hc0 := ((hfg 0).1 hl0).2.2 0 (by omega)
        have ea : a.add (0 * 6 + 0) = a := by simp [Addr.add]
        have hg0 : (g 0)[0]? = some ((g 0)[0]'(by rw [(hfg 0).2]; omega)) := List.getElem?_eq_getElem _
        rw [ea, hg0] at hc0
        obtain ⟨e1, e2⟩ := cell_spot hc0
        refine ⟨a.block, a.off, by rw [← e1], e2, fun j hj => ?_⟩
        have hj' : j < len * 6 := by simpa using hj
        have hq := ((hfg (j / 6)).1 (by omega)).2.2 (j % 6) (by omega)
        have hdm : j / 6 * 6 + j % 6 = j := by omega
        have hx := hfx (j / 6) (j % 6) (by omega) (by omega)
        rw [hdm, Nat.zero_add] at hx
        rw [hdm, e1, add_off] at hq
        rw [hq, hx], by rw [WfD]; exact ⟨wf64 w0, wf64 w1, wfU w2, hsl, hkl, hwf _ (fun i hi => by simpa using (List.mem_range'_1.1 hi).2)⟩⟩
end
end
end
section
section
open Go.RowKit
theorem sub_run (l : List UInt8) (i j : Nat) (hij : i ≤ j) (hj : j ≤ l.length) (W : World) : (Instr.slice 9 (.string ⟨l.toArray⟩) (some (.int .i64 i)) (some (.int .i64 j)) none).run Tryz.prog W = .ok (.string ⟨((l.drop i).take (j - i)).toArray⟩) W := by
  refine (run_slice_string W 9 ⟨l.toArray⟩ .i64 .i64 i j Tryz.underlying9 (by omega) (by omega) (by simp [ByteArray.size]; omega)).trans ?_
  have e : (⟨l.toArray⟩ : ByteArray).extract i j = ⟨((l.drop i).take (j - i)).toArray⟩ := by
    apply ByteArray.ext
    rw [ByteArray.data_extract]
    apply Array.toList_inj.1
    simp
  simp only [Int.toNat_natCast, e]
theorem sub_from (l : List UInt8) (i : Nat) (hi : i ≤ l.length) (W : World) : (Instr.slice 9 (.string ⟨l.toArray⟩) (some (.int .i64 i)) none none).run Tryz.prog W = .ok (.string ⟨(l.drop i).toArray⟩) W := by
  refine (run_slice_string_l (w := W) (t := 9) (s := ⟨l.toArray⟩) Tryz.underlying9 .i64 i (by omega) (by simp [ByteArray.size]; omega)).trans ?_
  have e : (⟨l.toArray⟩ : ByteArray).extract i (⟨l.toArray⟩ : ByteArray).size = ⟨(l.drop i).toArray⟩ := by
    apply ByteArray.ext
    rw [ByteArray.data_extract]
    apply Array.toList_inj.1
    simp [ByteArray.size]
    rw [List.take_of_length_le (by rw [List.length_drop]; exact Nat.le_refl _)]
  simp only [Int.toNat_natCast, e]
theorem sub_to (l : List UInt8) (j : Nat) (hj : j ≤ l.length) (W : World) : (Instr.slice 9 (.string ⟨l.toArray⟩) none (some (.int .i64 j)) none).run Tryz.prog W = .ok (.string ⟨(l.take j).toArray⟩) W := by
  refine (run_slice_string_h (w := W) (t := 9) (s := ⟨l.toArray⟩) Tryz.underlying9 .i64 j (by omega) (by simp [ByteArray.size]; omega)).trans ?_
  have e : (⟨l.toArray⟩ : ByteArray).extract 0 j = ⟨(l.take j).toArray⟩ := by
    apply ByteArray.ext
    rw [ByteArray.data_extract]
    apply Array.toList_inj.1
    simp
  simp only [Int.toNat_natCast, e]
theorem arr_size (l : List UInt8) : (⟨l.toArray⟩ : ByteArray).size = l.length := by simp [ByteArray.size]
/-- R.Short. -/
theorem short_any (s : List UInt8) (most : Nat) (hs : s.length ≤ 9223372036854775807) (hm : most ≤ 1048576) (w : World) : Calls Tryz.prog 10 #[strV s, .int .i64 most] w fun e w' => e = .returned (strV (s.take most)) ∧ w = w' := by
  have hk : ∀ W : World, (Instr.slice 9 (.string ⟨s.toArray⟩) none (some (.int .i64 (min (s.length : Int) (most : Int)))) none).run Tryz.prog W = .ok (.string ⟨(s.take most).toArray⟩) W := by
    intro W
    have h := sub_to s (min s.length most) (by omega) W
    have e : ((min s.length most : Nat) : Int) = min (s.length : Int) (most : Int) := by omega
    have e2 : s.take (min s.length most) = s.take most := by
      by_cases h : s.length ≤ most
      · rw [Nat.min_eq_left h, List.take_of_length_le (Nat.le_refl _), List.take_of_length_le h]
      · rw [Nat.min_eq_right (by omega)]
    rw [e, e2] at h
    exact h
  have hz := arr_size s
  unfold strV
  go_enter Tryz.func10, Tryz.ntmps10
  go_wp2
  go_ret
  exact ⟨rfl, rfl⟩
theorem strInfo : (Tryz.prog.info? 9).map (fun i => (i.zero, i.size, i.bytes)) = some (some (.string ⟨#[]⟩), 1, 16) := by kernel_rfl
/-- A row of texts that is one's own. -/
def TxtRow (B : Nat) (w : World) (v : Value) (ks : List (List UInt8)) : Prop := w.ownsRow B 9 1 v ks.length (ks.map strV)
theorem TxtRow.nil (B : Nat) (w : World) : TxtRow B w (.slice none 0 0) [] := World.ownsRow_nil _ _ _ _
theorem TxtRow.below {B : Nat} {w w' : World} {v : Value} {ks : List (List UInt8)} (h : TxtRow B w v ks) (hb : Below w.heap.size w w') : TxtRow B w' v ks := own_below h hb
theorem one_at {w : World} {v : Value} {ty : TypeId} : ∀ j u, [v][j]? = some u → (w.alloc (.cells #[v] ty)).cell? ((⟨w.heap.size, 0, none⟩ : Addr).add j) = some u := row_at (heap_alloc_new w (.cells #[v] ty))
theorem one_one {s : ByteArray} : ∀ u ∈ [Value.string s], u.oneCell' = true := by
  intro u hu
  rw [List.mem_singleton.1 hu]
  rfl
theorem TxtRow.own {B : Nat} {w : World} {v : Value} {ks : List (List UInt8)} (h : TxtRow B w v ks) : w.ownsRow 0 9 1 v ks.length (ks.map strV) ∧ ∀ i ∈ blkL v, B ≤ i := by
  refine ⟨⟨h.1, ?_⟩, fun i hi => (h.lt i (mem_blk.1 hi)).1⟩
  rcases h.2 with hn | ⟨g, c, cur, h1, h2, rest⟩
  · exact .inl hn
  · exact .inr ⟨g, c, cur, h1, Nat.zero_le _, rest⟩
end
end
end Go.Proofs.YtccmhhmdenfecaaGreatDoor
