/- Trees in memory: their children one by one. The walk of EqTexts over two equal rows of strings. The walk of EqNode over two copies of one tree. The walk of SpoilNode: it writes only into the blocks of its tree. The walk of SpoilNode. -/
import Derived.Test.YtmpflnlajakibaaC12
import Derived.Test.YtmpflnlajakibaaIn
import Derived.Deep.RegionHeld3
import Derived.BigQuiet
namespace Go.Proofs.Ytmpflnlajakibaa
set_option linter.unusedVariables false
set_option linter.unusedSimpArgs false
section
open Go.RowKit
theorem slice_form {w : World} {B : Nat} {ty : TypeId} {sz m : Nat} {v : Value} {xs : List Value} (h : w.ownsRow B ty sz v m xs) : ∃ A c, v = .slice A m c ∧ (A = none ∨ ∃ g, A = some ⟨g, 0, none⟩) := by
  rcases h.2 with ⟨rfl, rfl⟩ | ⟨g, c, cur, rfl, -⟩
  · exact ⟨_, _, rfl, .inl rfl⟩
  · exact ⟨_, _, rfl, .inr ⟨g, rfl⟩⟩
/-- The six cells of a node, by name. -/
theorem NRep.form {w : World} {T : DT} {cs : List Value} {bs : List Nat} (h : NRep w T cs bs) : ∃ kd n u s kv lv, cs = [.int .i64 kd, .int .i64 n, .int .u64 u, .string s, kv, lv] := by
  obtain ⟨kd, n, u, s, ks, l⟩ := T
  rw [NRep] at h
  obtain ⟨kv, lv, xs, bl, rfl, -⟩ := h
  exact ⟨kd, n, u, ⟨s.toArray⟩, kv, lv, rfl⟩
theorem NReps.at_ {w : World} : ∀ (l : List DT) (xs : List Value) (bs : List Nat) (i : Nat) (hi : i < l.length), NReps w l xs bs →
    ∃ v0 v1 v2 v3 v4 v5 b, NRep w l[i] [v0, v1, v2, v3, v4, v5] b ∧ (∀ j ∈ b, j ∈ bs) ∧ xs[i * 6]? = some v0 ∧ xs[i * 6 + 1]? = some v1 ∧ xs[i * 6 + 2]? = some v2 ∧ xs[i * 6 + 3]? = some v3 ∧ xs[i * 6 + 4]? = some v4 ∧ xs[i * 6 + 5]? = some v5
  | t :: ts, xs, bs, 0, _, h => by
    rw [NReps] at h
    obtain ⟨c, b, xs', bs', h1, h2, rfl, rfl⟩ := h
    obtain ⟨kd, n, u, s, kv, lv, rfl⟩ := h1.form
    exact ⟨_, _, _, _, _, _, b, h1, fun j hj => by simp [hj], rfl, rfl, rfl, rfl, rfl, rfl⟩
  | t :: ts, xs, bs, i + 1, hi, h => by
    rw [NReps] at h
    obtain ⟨c, b, xs', bs', h1, h2, rfl, rfl⟩ := h
    obtain ⟨kd, n, u, s, kv, lv, rfl⟩ := h1.form
    obtain ⟨v0, v1, v2, v3, v4, v5, b2, g, hb, g0, g1, g2, g3, g4, g5⟩ := NReps.at_ ts xs' bs' i (by simpa using hi) h2
    have hs : ∀ j, ([Value.int .i64 kd, .int .i64 n, .int .u64 u, .string s, kv, lv] ++ xs')[(i + 1) * 6 + j]? = xs'[i * 6 + j]? := by
      intro j
      rw [List.getElem?_append_right (by simp; omega)]
      congr 1
      simp
      omega
    exact ⟨v0, v1, v2, v3, v4, v5, b2, g, fun j hj => by simp [hb j hj], (hs 0).trans g0, (hs 1).trans g1, (hs 2).trans g2, (hs 3).trans g3, (hs 4).trans g4, (hs 5).trans g5⟩
/-- The induction over trees. -/
theorem DT.byKids {P : DT → Prop} (h : ∀ kd n u s ks l, (∀ t ∈ l, P t) → P (.mk kd n u s ks l)) : ∀ T, P T := by
  have : ∀ (N : Nat) (T : DT), SizeOf.sizeOf T < N → P T := by
    intro N
    induction N with
    | zero => intro T h; omega
    | succ N ih =>
      intro T hT
      obtain ⟨kd, n, u, s, ks, l⟩ := T
      refine h kd n u s ks l fun t ht => ih t ?_
      have := List.sizeOf_lt_of_mem ht
      simp at hT
      omega
  exact fun T => this _ T (Nat.lt_succ_self _)
end
section
open Go.RowKit
theorem own_below {w w' : World} {B : Nat} {ty : TypeId} {sz m : Nat} {v : Value} {xs : List Value} (h : w.ownsRow B ty sz v m xs) (hb : Below w.heap.size w w') : w'.ownsRow B ty sz v m xs :=
  own_same2 h fun i hi => hb.block i (h.lt i (by simpa [blkL, Option.mem_toList] using hi)).2
theorem row_cell {w : World} {B : Nat} {ty : TypeId} {sz m : Nat} {A : Option Addr} {m' c : Nat} {xs : List Value} (h : w.ownsRow B ty sz (.slice A m' c) m xs) (hm : 0 < m) : ∃ g, A = some ⟨g, 0, none⟩ ∧ g < w.heap.size ∧ ∀ j, j < m * sz → w.cell? ⟨g, j, none⟩ = xs[j]? := by
  rcases h.2 with ⟨h1, h0⟩ | ⟨g, c', cur, h1, -, hg, -⟩
  · omega
  · injection h1 with h1 h2 h3
    subst h1; subst h2
    exact ⟨g, rfl, (Array.getElem?_eq_some_iff.1 hg).1, fun j hj => h.cellAt j hj⟩
theorem row_bound {w : World} {B : Nat} {ty : TypeId} {sz m : Nat} {v : Value} {xs : List Value} (h : w.ownsRow B ty sz v m xs) : m ≤ 9223372036854775807 := by
  rcases h.2 with ⟨-, h0⟩ | ⟨g, c', cur, -, -, -, hg, hm, -⟩
  · omega
  · unfold maxLen at hm; omega
set_option maxHeartbeats 1000000 in
theorem eqtexts_true (ss : List (List UInt8)) (u v : Value) (w : World) (hu : w.ownsRow 0 9 1 u ss.length (ss.map strV)) (hv : w.ownsRow 0 9 1 v ss.length (ss.map strV)) :
    Calls Try.prog 40 #[u, v] w fun e w' => e = .returned (.bool true) ∧ Below w.heap.size w w' := by
  obtain ⟨A, c, rfl, -⟩ := slice_form hu
  obtain ⟨A', c', rfl, -⟩ := slice_form hv
  have HU := Lib.hid hu
  have HV := Lib.hid hv
  clear hu hv
  have hbd := row_bound HU.out
  obtain ⟨n, hn⟩ : ∃ n, n = ss.length := ⟨_, rfl⟩
  rw [← hn]
  rw [← hn] at hbd
  have HN := Lib.hid hn
  clear hn
  go_enter Try.func40, Try.ntmps40
  go_wp2
  go_loopw [5] (fun i wr => ∃ k : Nat, k ≤ n ∧ i = .int .i64 k ∧ Below w.heap.size w wr) (fun i _ => n - (intOf i).toNat)
  case atStart => exact ⟨0, by omega, rfl, Below.refl _ _⟩
  case round =>
    rename_i wr
    obtain ⟨k, hk, rfl, hb⟩ := hrel
    by_cases h1 : k < n
    · have h1' : (k : Int) < (n : Int) := by omega
      have hkn : k < ss.length := by rw [← HN.out]; exact h1
      obtain ⟨g, rfl, hg, hc⟩ := row_cell (own_below HU.out hb) (by omega)
      obtain ⟨g', rfl, hg', hc'⟩ := row_cell (own_below HV.out hb) (by omega)
      have e1 := hc k (by omega)
      have e2 := hc' k (by omega)
      rw [List.getElem?_map, List.getElem?_eq_getElem hkn, Option.map_some] at e1 e2
      clear hc hc'
      generalize ss[k] = s at e1 e2
      clear hkn
      unfold strV at e1 e2
      go_wp2
      go_region
      all_goals go_wp2
      all_goals go_roundw
      case rel => exact ⟨k + 1, by omega, by go_num, by exact zw⟩
      case measure => simp only [intOf]; omega
    · have h1' : ¬ (k : Int) < (n : Int) := by omega
      go_wp2
      go_returns
      exact ⟨rfl, hb⟩
end
section
open Go.RowKit
theorem NRep.below {w w' : World} {T : DT} {cs : List Value} {bs : List Nat} (h : NRep w T cs bs) (hb : Below w.heap.size w w') : NRep w' T cs bs := h.same T cs bs fun i hi => hb.block i (h.bd T cs bs i hi)
theorem NReps.below {w w' : World} {l : List DT} {cs : List Value} {bs : List Nat} (h : NReps w l cs bs) (hb : Below w.heap.size w w') : NReps w' l cs bs := h.same l cs bs fun i hi => hb.block i (h.bd l cs bs i hi)
/-- EqNode says yes to two copies of one tree. -/
def EqC (T : DT) : Prop := ∀ (w : World) (x0 x1 x2 x3 x4 x5 y0 y1 y2 y3 y4 y5 : Value) (bs bs' : List Nat), NRep w T [x0, x1, x2, x3, x4, x5] bs → NRep w T [y0, y1, y2, y3, y4, y5] bs' →
  Calls Try.prog 24 #[.agg #[x0, x1, x2, x3, x4, x5], .agg #[y0, y1, y2, y3, y4, y5]] w fun e w' => e = .returned (.bool true) ∧ Below w.heap.size w w'
/-- The six cells of a child, where they lie. -/
theorem kid_cells {w : World} {l : List DT} {xs : List Value} {bl : List Nat} {A : Option Addr} {c : Nat} (h : w.ownsRow 0 44 6 (.slice A l.length c) l.length xs) (hn : NReps w l xs bl) (k : Nat) (hk : k < l.length) :
    ∃ g, A = some ⟨g, 0, none⟩ ∧ g < w.heap.size ∧ ∃ v0 v1 v2 v3 v4 v5 b, NRep w l[k] [v0, v1, v2, v3, v4, v5] b ∧ (∀ j ∈ b, j ∈ bl) ∧ w.cell? ⟨g, k * 6, none⟩ = some v0 ∧ w.cell? ⟨g, k * 6 + 1, none⟩ = some v1 ∧ w.cell? ⟨g, k * 6 + 2, none⟩ = some v2 ∧ w.cell? ⟨g, k * 6 + 3, none⟩ = some v3 ∧ w.cell? ⟨g, k * 6 + 4, none⟩ = some v4 ∧ w.cell? ⟨g, k * 6 + 5, none⟩ = some v5 := by
  obtain ⟨g, rfl, hg, hc⟩ := row_cell h (by omega)
  obtain ⟨v0, v1, v2, v3, v4, v5, b, h1, h2, e0, e1, e2, e3, e4, e5⟩ := NReps.at_ l xs bl k hk hn
  exact ⟨g, rfl, hg, v0, v1, v2, v3, v4, v5, b, h1, h2, (hc _ (by omega)).trans e0, (hc _ (by omega)).trans e1, (hc _ (by omega)).trans e2, (hc _ (by omega)).trans e3, (hc _ (by omega)).trans e4, (hc _ (by omega)).trans e5⟩
set_option maxHeartbeats 4000000 in
theorem eqnode_step (kd nn u : Int) (s : List UInt8) (ks : List (List UInt8)) (l : List DT) (ih : ∀ t ∈ l, EqC t) : EqC (.mk kd nn u s ks l) := by
  intro w x0 x1 x2 x3 x4 x5 y0 y1 y2 y3 y4 y5 bs bs' hx hy
  rw [NRep] at hx hy
  obtain ⟨kv, lv, xs, bl, hx1, hx2, hx3, hx4, -⟩ := hx
  obtain ⟨kv', lv', xs', bl', hy1, hy2, hy3, hy4, -⟩ := hy
  simp only [nodeC, List.cons.injEq, and_true] at hx1 hy1
  obtain ⟨rfl, rfl, rfl, rfl, rfl, rfl⟩ := hx1
  obtain ⟨rfl, rfl, rfl, rfl, rfl, rfl⟩ := hy1
  obtain ⟨A1, c1, rfl, -⟩ := slice_form hx2
  obtain ⟨A2, c2, rfl, -⟩ := slice_form hx3
  obtain ⟨B1, d1, rfl, -⟩ := slice_form hy2
  obtain ⟨B2, d2, rfl, -⟩ := slice_form hy3
  have HT := Lib.hid (fun (W : World) (hW : Below w.heap.size w W) => eqtexts_true ks _ _ W (own_below hx2 hW) (own_below hy2 hW))
  have HX := Lib.hid (fun (W : World) (hW : Below w.heap.size w W) => kid_cells (own_below hx3 hW) (hx4.below hW))
  have HY := Lib.hid (fun (W : World) (hW : Below w.heap.size w W) => kid_cells (own_below hy3 hW) (hy4.below hW))
  have HI := Lib.hid ih
  have hbd := row_bound hx3
  clear hx2 hx3 hx4 hy2 hy3 hy4 ih
  unfold strV
  obtain ⟨m, hm⟩ : ∃ m, m = l.length := ⟨_, rfl⟩
  rw [← hm]
  rw [← hm] at hbd
  have HM := Lib.hid hm
  clear hm
  generalize hq : ks.length = q
  rw [hq] at HT
  clear hq
  go_enter Try.func24, Try.ntmps24
  go_upto_region 3 with (go_at_call 40; refine (HT.out _ zw).mono ?_; rintro e w1 ⟨rfl, hb1⟩; obtain ⟨hc1, hf1, hl1⟩ := bcell hb1; (try simp only [zdz] at hc1 hf1 hl1); have hz1 := hb1.size; (try simp only [zsz] at hz1); (try have g0 : w.heap.size < w1.heap.size := by omega); (try have g1 : w.heap.size + 1 < w1.heap.size := by omega); (try have g2 : w.heap.size + 2 < w1.heap.size := by omega); (try have gb : b < w1.heap.size := by omega); (try have g3 : w.heap.size + 3 < w1.heap.size := by omega); (try have hbb : Below w.heap.size w w1 := zw); (try obtain ⟨hco, hfo, _⟩ := bcell hbb); (try have hb1 := hb1))
  refine wp_named (fun wn => Below w.heap.size w wn ∧ w.heap.size + 1 < wn.heap.size ∧ wn.cell? ⟨w.heap.size, 5, none⟩ = some (.slice A2 m c2) ∧ wn.cell? ⟨w.heap.size + 1, 5, none⟩ = some (.slice B2 m d2)) ⟨by exact zw, by omega, by go_simp, by go_simp⟩ ?_
  clear hb1 hc1 hf1 hl1 hz1 g0 g1 hbb hco hfo
  rintro wn ⟨hb, hX, z0, z1⟩
  go_wp2_with fail
  go_loopw [5] (fun i wr => ∃ k : Nat, k ≤ m ∧ i = .int .i64 k ∧ Below w.heap.size w wr ∧ Below wn.heap.size wn wr) (fun i _ => m - (intOf i).toNat)
  case atStart => exact ⟨0, by omega, rfl, hb, Below.refl _ _⟩
  case round =>
    rename_i wr
    obtain ⟨k, hk, rfl, hbr, hbn⟩ := hrel
    have y0 := (hbn.cell (p := ⟨w.heap.size, 5, none⟩) (by show w.heap.size < _; omega)).trans z0
    have y1 := (hbn.cell (p := ⟨w.heap.size + 1, 5, none⟩) hX).trans z1
    have gw := hbn.size
    have gX0 : w.heap.size < wr.heap.size := by have := hbn.size; omega
    have gX : w.heap.size + 1 < wr.heap.size := by have := hbn.size; omega
    by_cases h1 : k < m
    · have h1' : (k : Int) < (m : Int) := by omega
      have hkl : k < l.length := by rw [← HM.out]; exact h1
      obtain ⟨g, rfl, hg, a0, a1, a2, a3, a4, a5, b, hA, -, p0, p1, p2, p3, p4, p5⟩ := HX.out wr hbr k hkl
      obtain ⟨g', rfl, hg', b0, b1, b2, b3, b4, b5, b', hB, -, q0, q1, q2, q3, q4, q5⟩ := HY.out wr hbr k hkl
      have HE := Lib.hid (fun (W : World) (hW : Below wr.heap.size wr W) => HI.out _ (List.getElem_mem hkl) W _ _ _ _ _ _ _ _ _ _ _ _ _ _ (hA.below hW) (hB.below hW))
      clear hA hB HX HY hkl
      have e0 : (0 : Nat) + k * 6 = k * 6 := by omega
      go_wp2
      go_region_held3 (fun w' => w'.cell? ⟨w.heap.size, 5, none⟩ = some (.slice (some ⟨g, 0, none⟩) m c2) ∧ w'.cell? ⟨w.heap.size + 1, 5, none⟩ = some (.slice (some ⟨g', 0, none⟩) m d2) ∧ w'.cell? ⟨g, k * 6, none⟩ = some a0 ∧ w'.cell? ⟨g, k * 6 + 1, none⟩ = some a1 ∧ w'.cell? ⟨g, k * 6 + 2, none⟩ = some a2 ∧ w'.cell? ⟨g, k * 6 + 3, none⟩ = some a3 ∧ w'.cell? ⟨g, k * 6 + 4, none⟩ = some a4 ∧ w'.cell? ⟨g, k * 6 + 5, none⟩ = some a5 ∧ w'.cell? ⟨g', k * 6, none⟩ = some b0 ∧ w'.cell? ⟨g', k * 6 + 1, none⟩ = some b1 ∧ w'.cell? ⟨g', k * 6 + 2, none⟩ = some b2 ∧ w'.cell? ⟨g', k * 6 + 3, none⟩ = some b3 ∧ w'.cell? ⟨g', k * 6 + 4, none⟩ = some b4 ∧ w'.cell? ⟨g', k * 6 + 5, none⟩ = some b5) (first | (with_reducible exact ⟨y0, y1, p0, p1, p2, p3, p4, p5, q0, q1, q2, q3, q4, q5⟩) | (with_reducible exact ks) | (refine ⟨?_, ?_, ?_, ?_, ?_, ?_, ?_, ?_, ?_, ?_, ?_, ?_, ?_, ?_⟩ <;> go_keep)) (((go_at_call 24; refine (HE.out _ zw).mono ?_; rintro e w1 ⟨rfl, hb1⟩; obtain ⟨hc1, hf1, hl1⟩ := bcell hb1; (try simp only [zdz] at hc1 hf1 hl1); have hz1 := hb1.size; (try simp only [zsz] at hz1); (try have g0 : w.heap.size < w1.heap.size := by omega); (try have g1 : w.heap.size + 1 < w1.heap.size := by omega); (try have g2 : w.heap.size + 2 < w1.heap.size := by omega); (try have gb : b < w1.heap.size := by omega); (try have g3 : w.heap.size + 3 < w1.heap.size := by omega); (try have hbb : Below w.heap.size w w1 := zw); (try obtain ⟨hco, hfo, _⟩ := bcell hbb); (try have hb1 := hb1)); (have ks : w1.cell? ⟨w.heap.size, 5, none⟩ = some (.slice (some ⟨g, 0, none⟩) m c2) ∧ w1.cell? ⟨w.heap.size + 1, 5, none⟩ = some (.slice (some ⟨g', 0, none⟩) m d2) ∧ w1.cell? ⟨g, k * 6, none⟩ = some a0 ∧ w1.cell? ⟨g, k * 6 + 1, none⟩ = some a1 ∧ w1.cell? ⟨g, k * 6 + 2, none⟩ = some a2 ∧ w1.cell? ⟨g, k * 6 + 3, none⟩ = some a3 ∧ w1.cell? ⟨g, k * 6 + 4, none⟩ = some a4 ∧ w1.cell? ⟨g, k * 6 + 5, none⟩ = some a5 ∧ w1.cell? ⟨g', k * 6, none⟩ = some b0 ∧ w1.cell? ⟨g', k * 6 + 1, none⟩ = some b1 ∧ w1.cell? ⟨g', k * 6 + 2, none⟩ = some b2 ∧ w1.cell? ⟨g', k * 6 + 3, none⟩ = some b3 ∧ w1.cell? ⟨g', k * 6 + 4, none⟩ = some b4 ∧ w1.cell? ⟨g', k * 6 + 5, none⟩ = some b5 := ⟨(hc1 _ _ gX0).trans y0, (hc1 _ _ gX).trans y1, (hc1 _ _ hg).trans p0, (hc1 _ _ hg).trans p1, (hc1 _ _ hg).trans p2, (hc1 _ _ hg).trans p3, (hc1 _ _ hg).trans p4, (hc1 _ _ hg).trans p5, (hc1 _ _ hg').trans q0, (hc1 _ _ hg').trans q1, (hc1 _ _ hg').trans q2, (hc1 _ _ hg').trans q3, (hc1 _ _ hg').trans q4, (hc1 _ _ hg').trans q5⟩)))
      all_goals go_wp2
      all_goals go_roundw
      case rel => exact ⟨k + 1, by omega, by go_num, by exact zw, by exact zw⟩
      case measure => simp only [intOf]; omega
    · have h1' : ¬ (k : Int) < (m : Int) := by omega
      go_wp2
      go_returns
      exact ⟨rfl, hbr⟩
theorem eqnode_true (T : DT) : EqC T := DT.byKids eqnode_step T
end
section
open Go.RowKit
theorem touch_cell2 {T : List Nat} {w w' : World} (h : Touch T w w') {x : Nat} (hx : x < w.heap.size) (hn : x ∉ T) (j : Nat) : w'.cell? ⟨x, j, none⟩ = w.cell? ⟨x, j, none⟩ := World.cell?_of_block (a := ⟨x, j, none⟩) (h.block x hx hn)
theorem row_block {w : World} {B : Nat} {ty : TypeId} {sz m : Nat} {A : Option Addr} {m' c : Nat} {xs : List Value} (h : w.ownsRow B ty sz (.slice A m' c) m xs) (hm : 0 < m) : ∃ g, A = some ⟨g, 0, none⟩ ∧ g ∈ blkL (.slice A m' c) ∧ m' = m ∧ g < w.heap.size := by
  rcases h.2 with ⟨h1, h0⟩ | ⟨g, c', cur, h1, -, hg, -⟩
  · omega
  · injection h1 with h1 h2 h3
    subst h1; subst h2
    exact ⟨g, rfl, by simp [blkL, Value.ownBlock], rfl, (Array.getElem?_eq_some_iff.1 hg).1⟩
theorem set_six {xs ys : List Value} {k : Nat} (hx : xs.length = k * 6) (v0 v1 v2 v3 v4 v5 a0 a1 a2 a3 a4 a5 : Value) :
    ((((((xs ++ ([v0, v1, v2, v3, v4, v5] ++ ys)).set (k * 6) a0).set (k * 6 + 1) a1).set (k * 6 + 2) a2).set (k * 6 + 3) a3).set (k * 6 + 4) a4).set (k * 6 + 5) a5 = (xs ++ [a0, a1, a2, a3, a4, a5]) ++ ys := by
  simp only [← hx]
  rw [List.set_append_right _ _ (by omega), List.set_append_right _ _ (by omega), List.set_append_right _ _ (by omega), List.set_append_right _ _ (by omega), List.set_append_right _ _ (by omega), List.set_append_right _ _ (by omega)]
  simp
theorem own_six {w : World} {ty : TypeId} {n cap g k : Nat} {xs ys : List Value} {v0 v1 v2 v3 v4 v5 : Value} (h : w.ownsRow 0 ty 6 (.slice (some ⟨g, 0, none⟩) n cap) n (xs ++ ([v0, v1, v2, v3, v4, v5] ++ ys))) (hx : xs.length = k * 6) (a0 a1 a2 a3 a4 a5 : Value) :
    ((((((w.setCell ⟨g, k * 6, none⟩ a0).setCell ⟨g, k * 6 + 1, none⟩ a1).setCell ⟨g, k * 6 + 2, none⟩ a2).setCell ⟨g, k * 6 + 3, none⟩ a3).setCell ⟨g, k * 6 + 4, none⟩ a4).setCell ⟨g, k * 6 + 5, none⟩ a5).ownsRow 0 ty 6 (.slice (some ⟨g, 0, none⟩) n cap) n ((xs ++ [a0, a1, a2, a3, a4, a5]) ++ ys) := by
  have := ((((((h.stored (k * 6) a0).1.stored (k * 6 + 1) a1).1.stored (k * 6 + 2) a2).1.stored (k * 6 + 3) a3).1.stored (k * 6 + 4) a4).1.stored (k * 6 + 5) a5).1
  rwa [set_six hx] at this
theorem touch_six {w : World} {g : Nat} (o0 o1 o2 o3 o4 o5 : Nat) (a0 a1 a2 a3 a4 a5 : Value) :
    Touch [g] w ((((((w.setCell ⟨g, o0, none⟩ a0).setCell ⟨g, o1, none⟩ a1).setCell ⟨g, o2, none⟩ a2).setCell ⟨g, o3, none⟩ a3).setCell ⟨g, o4, none⟩ a4).setCell ⟨g, o5, none⟩ a5) :=
  (((((Touch.setCell _ _ _ _).trans (Touch.setCell _ _ _ _)).trans (Touch.setCell _ _ _ _)).trans (Touch.setCell _ _ _ _)).trans (Touch.setCell _ _ _ _)).trans (Touch.setCell _ _ _ _)
/-- What SpoilNode has left of the children from the k-th on. -/
structure SpI (w wr : World) (l : List DT) (A : Option Addr) (c : Nat) (bs : List Nat) (k : Nat) : Prop where
  touch : Touch bs w wr
  rest : ∃ xs1 xs2 b2, wr.ownsRow 0 44 6 (.slice A l.length c) l.length (xs1 ++ xs2) ∧ xs1.length = k * 6 ∧ NReps wr (l.drop k) xs2 b2 ∧ b2.Nodup ∧ (∀ g ∈ blkL (.slice A l.length c), g ∉ b2) ∧ ∀ g ∈ b2, g ∈ bs
  blk : ∀ g ∈ blkL (.slice A l.length c), g ∈ bs
/-- The k-th child of the rest: its cells, and what is left behind a call that writes into its blocks and a store over it. -/
theorem SpI.next {w wr : World} {l : List DT} {A : Option Addr} {c : Nat} {bs : List Nat} {k : Nat} (h : SpI w wr l A c bs k) (hk : k < l.length) :
    ∃ g, A = some ⟨g, 0, none⟩ ∧ g < wr.heap.size ∧ (∀ j, wr.frozen? ⟨g, j, none⟩ = false) ∧ ∃ v0 v1 v2 v3 v4 v5 b, NRep wr l[k] [v0, v1, v2, v3, v4, v5] b ∧ b.Nodup ∧ (∀ j ∈ b, j ∈ bs) ∧ g ∉ b ∧
      wr.cell? ⟨g, k * 6, none⟩ = some v0 ∧ wr.cell? ⟨g, k * 6 + 1, none⟩ = some v1 ∧ wr.cell? ⟨g, k * 6 + 2, none⟩ = some v2 ∧ wr.cell? ⟨g, k * 6 + 3, none⟩ = some v3 ∧ wr.cell? ⟨g, k * 6 + 4, none⟩ = some v4 ∧ wr.cell? ⟨g, k * 6 + 5, none⟩ = some v5 ∧
      ∀ w1, Touch b wr w1 → ∀ a0 a1 a2 a3 a4 a5 : Value, SpI w ((((((w1.setCell ⟨g, k * 6, none⟩ a0).setCell ⟨g, k * 6 + 1, none⟩ a1).setCell ⟨g, k * 6 + 2, none⟩ a2).setCell ⟨g, k * 6 + 3, none⟩ a3).setCell ⟨g, k * 6 + 4, none⟩ a4).setCell ⟨g, k * 6 + 5, none⟩ a5) l A c bs (k + 1) := by
  obtain ⟨ht, ⟨xs1, xs2, b2, ho, hx, hn, hnd, hgb, hbb⟩, hblk⟩ := h
  obtain ⟨g, rfl, hgm, -, hg⟩ := row_block ho (by omega)
  rw [List.drop_eq_getElem_cons hk, NReps] at hn
  obtain ⟨cc, b, xs', b', h1, h2, rfl, rfl⟩ := hn
  obtain ⟨kd, n, u, s, kv, lv, rfl⟩ := h1.form
  have hc : ∀ j (_ : j < 6), wr.cell? ⟨g, k * 6 + j, none⟩ = ([Value.int .i64 kd, .int .i64 n, .int .u64 u, .string s, kv, lv])[j]? := by
    intro j hj
    rw [ho.cellAt (k * 6 + j) (by omega), List.getElem?_append_right (by omega), List.getElem?_append_left (by simp; omega)]
    congr 1
    omega
  have hgn := hgb g hgm
  rw [List.mem_append, not_or] at hgn
  rw [List.nodup_append] at hnd
  refine ⟨g, rfl, hg, fun j => ho.frozenAt j, _, _, _, _, _, _, b, h1, hnd.1, fun j hj => hbb j (by simp [hj]), hgn.1, hc 0 (by omega), hc 1 (by omega), hc 2 (by omega), hc 3 (by omega), hc 4 (by omega), hc 5 (by omega), ?_⟩
  intro w1 hw1 a0 a1 a2 a3 a4 a5
  have ho1 : w1.ownsRow 0 44 6 (.slice (some ⟨g, 0, none⟩) l.length c) l.length (xs1 ++ ([Value.int .i64 kd, .int .i64 n, .int .u64 u, .string s, kv, lv] ++ xs')) :=
    own_same2 ho fun i hi => by
      have : i = g := by simpa [blkL, Value.ownBlock] using hi
      subst this
      exact hw1.block _ hg hgn.1
  have hs := touch_six (w := w1) (g := g) (k * 6) (k * 6 + 1) (k * 6 + 2) (k * 6 + 3) (k * 6 + 4) (k * 6 + 5) a0 a1 a2 a3 a4 a5
  have hbs := h2.bd _ _ _
  refine ⟨ht.trans ((hw1.mono fun j hj => hbb j (by simp [hj])).trans (hs.mono fun j hj => by simp at hj; subst hj; exact hblk _ hgm)), ⟨xs1 ++ [a0, a1, a2, a3, a4, a5], xs', b', own_six ho1 hx a0 a1 a2 a3 a4 a5, by simp; omega, ?_, hnd.2.1, ?_, fun j hj => hbb j (by simp [hj])⟩, hblk⟩
  · refine h2.same _ _ _ fun i hi => ?_
    have e1 := hw1.block i (hbs i hi) fun hib => hnd.2.2 i hib i hi rfl
    have e2 := hs.block i (Nat.lt_of_lt_of_le (hbs i hi) hw1.size) (by simp; rintro rfl; exact hgn.2 hi)
    exact e2.trans e1
  · intro i hi
    have : i = g := by simpa [blkL, Value.ownBlock] using hi
    subst this
    exact hgn.2
end
section
open Go.RowKit
end
end Go.Proofs.Ytmpflnlajakibaa
