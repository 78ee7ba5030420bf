/- The law VerifyKnown: its walk. -/
import Derived.Test.YtmpflnlajakibaaBudk
import Derived.Deep.LoopGhost
import Derived.Laws.OwnMore
namespace Go.Proofs.Ytmpflnlajakibaa
set_option linter.unusedVariables false
set_option linter.unusedSimpArgs false
open Go.RowKit
theorem FrontOk.nil (K : Nat) (hK : K ≤ 1073741824) (w : World) : FrontOk K w none 0 0 := front2 K hK (zs := []) (.inl ⟨rfl, rfl, rfl, rfl⟩)
/-- CopyBytes: the copy is a row of one's own. -/
theorem copy_own (b o m c : Nat) (L : List UInt8) (w : World) (hD : Doc w b o m c L) :
    Calls Try.prog 11 #[.slice (some ⟨b, o, none⟩) m c] w fun e w' => (∃ v, e = .returned v ∧ w'.ownsRow w.heap.size 5 1 v m (bytV L)) ∧ Below w.heap.size w w' := by
  obtain ⟨i0, hi, iz0, iz1, iz2⟩ := info_parts u8info
  have HL := Lib.hid hD.len
  have HS := Lib.hid hD.sm
  have HA := Lib.hid hD.at_
  clear hD
  go_enter Try.func11, Try.ntmps11
  go_wp2_with (at_builtin; refine wpList_append_own _ rfl _ _ 22 rfl w.heap.size 5 i0 (.int .u8 0) 1 1 Try.underlying22 hi iz0 iz1 iz2 rfl (by decide) (.slice none 0 0) 0 [] rfl ⟨rfl, .inl ⟨rfl, rfl⟩⟩ ⟨b, o, none⟩ m c (bytV L) rfl ?c1 ?c2 ?c3 ?c4 ?c5 ?c6 ?_)
  case c1 => simp [bytV, HL.out]
  case c2 =>
    intro j u hj
    rw [bytV, List.getElem?_map] at hj
    cases hx : L[j]? with
    | none => rw [hx] at hj; cases hj
    | some y =>
      rw [hx] at hj
      obtain ⟨hl, rfl⟩ := List.getElem?_eq_some_iff.1 hx
      cases hj
      have := HA.out j hl
      rw [show ((⟨b, o, none⟩ : Addr).add j) = ⟨b, o + j, none⟩ by simp only [Addr.add]; split <;> simp_all]
      exact this
  case c3 =>
    intro u hu
    obtain ⟨y, -, rfl⟩ := List.mem_map.1 hu
    rfl
  case c4 => have := HS.out; unfold maxLen; omega
  case c5 => have := HS.out; omega
  case c6 => exact Nat.le_refl _
  intro v' w' hown hgrow _
  have hbt : Hid (w'.ownsRow w.heap.size 5 1 v' m (bytV L)) := Lib.hid (by simpa using hown)
  have hbl := Lib.hid ((Below.refl w.heap.size w).grown hgrow (Nat.le_refl _) (fun k hk => by cases hk))
  clear hown hgrow
  go_wp2
  go_returns
  exact ⟨⟨_, rfl, hbt.out⟩, hbl.out⟩
/-- The documents of the law, in memory. -/
def Docs (w : World) (G : Nat) : Prop := ∀ j, j < 9 → ∃ b n L, w.cell? ⟨G, j, none⟩ = some (.slice (some ⟨b, 0, none⟩) n n) ∧ Doc w b 0 n n L ∧ n ≤ 22 ∧ 1 ≤ n
theorem Docs.below {w W : World} {G : Nat} (h : Docs w G) (hG : G < w.heap.size) (hb : Below w.heap.size w W) : Docs W G := fun j hj => by
  obtain ⟨b, n, L, h1, h2, h3⟩ := h j hj
  exact ⟨b, n, L, (hb.cell (p := ⟨G, j, none⟩) hG).trans h1, h2.below hb, h3⟩
def kR (l : List UInt8) : Obj := .cells (bytV l).toArray 5
def k1 : List UInt8 := [0, 2, 1, 2, 40, 40, 4, 40, 1]
def k2 : List UInt8 := [120, 0, 2, 2, 3, 2, 56, 1]
def k3 : List UInt8 := [107, 0, 2, 3, 4, 16, 16, 4, 40, 1]
def k4 : List UInt8 := [5, 4, 1]
def k5 : List UInt8 := [97, 0, 1, 3, 1, 1, 1, 0, 0, 6, 1, 1, 0, 0, 2, 8, 4, 36, 36, 4, 40, 1]
def k6 : List UInt8 := [1, 5, 12, 2, 3, 4, 100, 40, 4, 40, 1]
def k7 : List UInt8 := [0, 1, 5, 2, 2, 3, 100, 101, 4, 40, 1]
def k8 : List UInt8 := [0, 1, 1, 40, 1, 3, 40, 2, 6, 4, 40, 40, 4, 40, 1]
theorem kdoc {w : World} (l : List UInt8) (hs : l.length ≤ 1073741824) : Doc (w.alloc (kR l)) w.heap.size 0 l.length l.length l :=
  doc_row (heap_alloc_new w _) (by simp) hs
def kW (w1 : World) (b0 : Nat) : World := (((((((((w1.alloc (kR k1)).alloc (kR k2)).alloc (kR k3)).alloc (kR k4)).alloc (kR k5)).alloc (kR k6)).alloc (kR k7)).alloc (kR k8)).alloc (.cells #[.slice (some ⟨b0, 0, none⟩) 17 17, .slice (some ⟨w1.heap.size, 0, none⟩) 9 9, .slice (some ⟨w1.heap.size + 1, 0, none⟩) 8 8, .slice (some ⟨w1.heap.size + 2, 0, none⟩) 10 10, .slice (some ⟨w1.heap.size + 3, 0, none⟩) 3 3, .slice (some ⟨w1.heap.size + 4, 0, none⟩) 22 22, .slice (some ⟨w1.heap.size + 5, 0, none⟩) 11 11, .slice (some ⟨w1.heap.size + 6, 0, none⟩) 11 11, .slice (some ⟨w1.heap.size + 7, 0, none⟩) 15 15] 22))
theorem docs_made {w1 : World} {b0 : Nat} (hD : Doc w1 b0 0 17 17 exD) : Docs (kW w1 b0) (w1.heap.size + 8) := by
  have hc := fun j => cell_of_row _ _ j _ _ _ (heap_alloc_new ((((((((w1.alloc (kR k1)).alloc (kR k2)).alloc (kR k3)).alloc (kR k4)).alloc (kR k5)).alloc (kR k6)).alloc (kR k7)).alloc (kR k8)) (.cells #[.slice (some ⟨b0, 0, none⟩) 17 17, .slice (some ⟨w1.heap.size, 0, none⟩) 9 9, .slice (some ⟨w1.heap.size + 1, 0, none⟩) 8 8, .slice (some ⟨w1.heap.size + 2, 0, none⟩) 10 10, .slice (some ⟨w1.heap.size + 3, 0, none⟩) 3 3, .slice (some ⟨w1.heap.size + 4, 0, none⟩) 22 22, .slice (some ⟨w1.heap.size + 5, 0, none⟩) 11 11, .slice (some ⟨w1.heap.size + 6, 0, none⟩) 11 11, .slice (some ⟨w1.heap.size + 7, 0, none⟩) 15 15] 22))
  simp only [World.size_alloc] at hc
  have d0 : Doc (kW w1 b0) b0 0 17 17 exD := hD.below (by unfold kW; (repeat' first | (with_reducible first | exact zb0 _ _ | assumption | refine zb1 ?_ ?_ _ | refine zb2 ?_ | refine zb3 ?_ _ | refine zb4 ?_ ?_ _ | refine zb5 (by assumption) ?_ ?_ | exact zb6 _) | omega | (simp <;> omega)))
  have e1 := kdoc (w := w1) k1 (by decide)
  have d1 : Doc (kW w1 b0) (w1.heap.size) 0 9 9 k1 := e1.below (by unfold kW; (repeat' first | (with_reducible first | exact zb0 _ _ | assumption | refine zb1 ?_ ?_ _ | refine zb2 ?_ | refine zb3 ?_ _ | refine zb4 ?_ ?_ _ | refine zb5 (by assumption) ?_ ?_ | exact zb6 _) | omega | (simp <;> omega)))
  have e2 := kdoc (w := (w1.alloc (kR k1))) k2 (by decide)
  simp only [World.size_alloc] at e2
  have d2 : Doc (kW w1 b0) (w1.heap.size + 1) 0 8 8 k2 := e2.below (by unfold kW; (repeat' first | (with_reducible first | exact zb0 _ _ | assumption | refine zb1 ?_ ?_ _ | refine zb2 ?_ | refine zb3 ?_ _ | refine zb4 ?_ ?_ _ | refine zb5 (by assumption) ?_ ?_ | exact zb6 _) | omega | (simp <;> omega)))
  have e3 := kdoc (w := ((w1.alloc (kR k1)).alloc (kR k2))) k3 (by decide)
  simp only [World.size_alloc] at e3
  have d3 : Doc (kW w1 b0) (w1.heap.size + 2) 0 10 10 k3 := e3.below (by unfold kW; (repeat' first | (with_reducible first | exact zb0 _ _ | assumption | refine zb1 ?_ ?_ _ | refine zb2 ?_ | refine zb3 ?_ _ | refine zb4 ?_ ?_ _ | refine zb5 (by assumption) ?_ ?_ | exact zb6 _) | omega | (simp <;> omega)))
  have e4 := kdoc (w := (((w1.alloc (kR k1)).alloc (kR k2)).alloc (kR k3))) k4 (by decide)
  simp only [World.size_alloc] at e4
  have d4 : Doc (kW w1 b0) (w1.heap.size + 3) 0 3 3 k4 := e4.below (by unfold kW; (repeat' first | (with_reducible first | exact zb0 _ _ | assumption | refine zb1 ?_ ?_ _ | refine zb2 ?_ | refine zb3 ?_ _ | refine zb4 ?_ ?_ _ | refine zb5 (by assumption) ?_ ?_ | exact zb6 _) | omega | (simp <;> omega)))
  have e5 := kdoc (w := ((((w1.alloc (kR k1)).alloc (kR k2)).alloc (kR k3)).alloc (kR k4))) k5 (by decide)
  simp only [World.size_alloc] at e5
  have d5 : Doc (kW w1 b0) (w1.heap.size + 4) 0 22 22 k5 := e5.below (by unfold kW; (repeat' first | (with_reducible first | exact zb0 _ _ | assumption | refine zb1 ?_ ?_ _ | refine zb2 ?_ | refine zb3 ?_ _ | refine zb4 ?_ ?_ _ | refine zb5 (by assumption) ?_ ?_ | exact zb6 _) | omega | (simp <;> omega)))
  have e6 := kdoc (w := (((((w1.alloc (kR k1)).alloc (kR k2)).alloc (kR k3)).alloc (kR k4)).alloc (kR k5))) k6 (by decide)
  simp only [World.size_alloc] at e6
  have d6 : Doc (kW w1 b0) (w1.heap.size + 5) 0 11 11 k6 := e6.below (by unfold kW; (repeat' first | (with_reducible first | exact zb0 _ _ | assumption | refine zb1 ?_ ?_ _ | refine zb2 ?_ | refine zb3 ?_ _ | refine zb4 ?_ ?_ _ | refine zb5 (by assumption) ?_ ?_ | exact zb6 _) | omega | (simp <;> omega)))
  have e7 := kdoc (w := ((((((w1.alloc (kR k1)).alloc (kR k2)).alloc (kR k3)).alloc (kR k4)).alloc (kR k5)).alloc (kR k6))) k7 (by decide)
  simp only [World.size_alloc] at e7
  have d7 : Doc (kW w1 b0) (w1.heap.size + 6) 0 11 11 k7 := e7.below (by unfold kW; (repeat' first | (with_reducible first | exact zb0 _ _ | assumption | refine zb1 ?_ ?_ _ | refine zb2 ?_ | refine zb3 ?_ _ | refine zb4 ?_ ?_ _ | refine zb5 (by assumption) ?_ ?_ | exact zb6 _) | omega | (simp <;> omega)))
  have e8 := kdoc (w := (((((((w1.alloc (kR k1)).alloc (kR k2)).alloc (kR k3)).alloc (kR k4)).alloc (kR k5)).alloc (kR k6)).alloc (kR k7))) k8 (by decide)
  simp only [World.size_alloc] at e8
  have d8 : Doc (kW w1 b0) (w1.heap.size + 7) 0 15 15 k8 := e8.below (by unfold kW; (repeat' first | (with_reducible first | exact zb0 _ _ | assumption | refine zb1 ?_ ?_ _ | refine zb2 ?_ | refine zb3 ?_ _ | refine zb4 ?_ ?_ _ | refine zb5 (by assumption) ?_ ?_ | exact zb6 _) | omega | (simp <;> omega)))
  intro j hj
  have : j = 0 ∨ j = 1 ∨ j = 2 ∨ j = 3 ∨ j = 4 ∨ j = 5 ∨ j = 6 ∨ j = 7 ∨ j = 8 := by omega
  rcases this with rfl | rfl | rfl | rfl | rfl | rfl | rfl | rfl | rfl
  · exact ⟨_, _, _, hc 0, d0, by decide, by decide⟩
  · exact ⟨_, _, _, hc 1, d1, by decide, by decide⟩
  · exact ⟨_, _, _, hc 2, d2, by decide, by decide⟩
  · exact ⟨_, _, _, hc 3, d3, by decide, by decide⟩
  · exact ⟨_, _, _, hc 4, d4, by decide, by decide⟩
  · exact ⟨_, _, _, hc 5, d5, by decide, by decide⟩
  · exact ⟨_, _, _, hc 6, d6, by decide, by decide⟩
  · exact ⟨_, _, _, hc 7, d7, by decide, by decide⟩
  · exact ⟨_, _, _, hc 8, d8, by decide, by decide⟩
theorem tells_at {W : World} {g o n cap : Nat} {L : List UInt8} (hD : Doc W g o n cap L) (hn : n ≤ 500) (a1 a2 : Int) :
    Calls Try.prog 3 #[.slice (some ⟨g, o, none⟩) n cap, .int .i64 a1, .int .i64 a2] W fun e w' => e = .returned (.bool true) ∧ Below W.heap.size W w' :=
  tells_core _ n cap a1 a2 W (front_doc 600 (by omega) hD (by omega))
theorem bud_at {W : World} {g o n cap : Nat} {L : List UInt8} (hD : Doc W g o n cap L) (hn : n ≤ 500) (a1 a2 : Int) :
    Calls Try.prog 4 #[.slice (some ⟨g, o, none⟩) n cap, .int .i64 a1, .int .i64 a2] W fun e w' => e = .returned (.bool true) ∧ Below W.heap.size W w' :=
  bud_core _ n cap a1 a2 W (front_doc 500 (by omega) hD hn)
theorem tells_nil (W : World) (a1 a2 : Int) : Calls Try.prog 3 #[.slice none 0 0, .int .i64 a1, .int .i64 a2] W fun e w' => e = .returned (.bool true) ∧ Below W.heap.size W w' :=
  tells_core none 0 0 a1 a2 W (FrontOk.nil 600 (by omega) W)
theorem doc_of_owns {w : World} {B g n cap : Nat} {e : TypeId} {L : List UInt8} (h : w.ownsRow B e 1 (.slice (some ⟨g, 0, none⟩) n cap) n (bytV L)) (hs : n ≤ 1073741824) : Doc w g 0 n cap L := by
  obtain ⟨h1, h2 | ⟨g', cap', cur, h2, h3, h4, h5, h6, h7, h8⟩⟩ := h
  · exact absurd h2.1 (by simp)
  · injection h2 with h2 _ h9
    injection h2 with h2
    injection h2 with h2
    subst h2; subst h9
    simp only [bytV, List.length_map, Nat.mul_one] at h1 h7 h8
    subst h1
    exact ⟨rfl, h5, h6, hs, bytesAt_row h4 h8, (Array.getElem?_eq_some_iff.1 h4).1⟩
theorem u8_nat2 {k : Nat} (h : k < 256) : ((k.toUInt8).toNat : Int) = k := by
  have : k.toUInt8.toNat = k % 256 := by simp
  omega
set_option maxHeartbeats 16000000 in
set_option maxRecDepth 100000 in
theorem known_walk (w : World) : Calls Try.prog 7 #[] w fun e w' => e = .returned (.bool true) ∧ Below w.heap.size w w' := by
  go_enter Try.func7, Try.ntmps7
  go_upto_region 2 with (go_at_call 18; refine (example_0 _).mono ?_; rintro e w1 ⟨⟨rfl, hd⟩, hb1⟩)
  have hz1 := hb1.size
  refine wp_named (fun wd => Docs wd (w1.heap.size + 8) ∧ Below w.heap.size w wd ∧ w1.heap.size + 8 < wd.heap.size) ⟨docs_made hd, by (repeat' first | (with_reducible first | exact zb0 _ _ | assumption | refine zb1 ?_ ?_ _ | refine zb2 ?_ | refine zb3 ?_ _ | refine zb4 ?_ ?_ _ | refine zb5 (by assumption) ?_ ?_ | exact zb6 _) | omega | (simp <;> omega)), by simp⟩ ?_
  generalize w1.heap.size + 8 = G
  rintro wd ⟨hdd, hbd, hG⟩
  have HDD := Lib.hid hdd
  have hzd := hbd.size
  clear hdd hd hb1
  go_wp2_with fail
  go_loopw [2] (fun i wr => ∃ j : Nat, j ≤ 9 ∧ i = .int .i64 j ∧ Below wd.heap.size wd wr) (fun i _ => 9 - (intOf i).toNat)
  case atStart => exact ⟨0, by omega, rfl, Below.refl _ _⟩
  case round =>
    obtain ⟨j, hj, rfl, hbr⟩ := hrel
    by_cases hlt : j < 9
    · have hlt' : (j : Int) < 9 := by omega
      obtain ⟨b, n, L, hc, hD, hn22, hn1⟩ := HDD.out j hlt
      have HC := Lib.hid hc
      have HD := Lib.hid hD
      have hc2 := (hbr.cell (p := ⟨G, j, none⟩) hG).trans hc
      clear hc hD hlt
      go_wp2_with fail
      go_loopw [3] (fun a wr2 => ∃ k : Nat, k ≤ n ∧ a = .int .i64 k ∧ Below wd.heap.size wd wr2) (fun a _ => n - (intOf a).toNat)
      case atStart => exact ⟨0, by omega, rfl, hbr⟩
      case round =>
        clear hc2 hbr
        obtain ⟨k, hk, rfl, hbr2⟩ := hrel
        have hc2 := (hbr2.cell (p := ⟨G, j, none⟩) hG).trans HC.out
        by_cases hlk : k < n
        · have hlk' : (k : Int) < (n : Int) := by omega
          go_wp2_with fail
          go_loopw [4] (fun c wr3 => ∃ m : Nat, m ≤ 300 ∧ c = .int .i64 m ∧ Below wd.heap.size wd wr3) (fun c _ => 256 - (intOf c).toNat)
          case atStart => exact ⟨0, by omega, rfl, hbr2⟩
          case round =>
            clear hc2 hbr2
            obtain ⟨m, hm, rfl, hbr3⟩ := hrel
            have hc2 := (hbr3.cell (p := ⟨G, j, none⟩) hG).trans HC.out
            by_cases hmm : m < 256
            · have hmm' : (m : Int) < 256 := by omega
              have q1 : Int.tdiv (m : Int) 24 = ((m / 24 : Nat) : Int) := by rw [Int.tdiv_eq_ediv_of_nonneg (by omega)]; omega
              have q2 : IntKind.i64.wrap ((m / 24 : Nat) : Int) = ((m / 24 : Nat) : Int) := IntWalk.i64_in _ (by omega)
              have q3 : IntKind.i64.wrap (1 + ((m / 24 : Nat) : Int)) = 1 + ((m / 24 : Nat) : Int) := IntWalk.i64_in _ (by omega)
              have q4 : IntKind.i64.wrap ((m : Int) + (1 + ((m / 24 : Nat) : Int))) = m + (1 + ((m / 24 : Nat) : Int)) := IntWalk.i64_in _ (by omega)
              have q5 : IntKind.u8.wrap (m : Int) = ((m.toUInt8).toNat : Int) := by rw [u8_nat2 hmm]; exact IntWalk.u8_in _ (by omega)
              generalize hy : m.toUInt8 = y at *
              go_wp2_with fail
              refine (copy_own b 0 n n L _ (HD.out.below hbr3)).mono ?_
              rintro e w4 ⟨⟨v, rfl, hown⟩, hb4⟩
              rcases hown.2 with ⟨-, h0⟩ | ⟨g, cp, cur, rfl, hbg, hg, hnc, hcm, hcs, hcx⟩
              · omega
              have hL := HD.out.len
              have hck := hown.cellAt k (by omega)
              have hcf := hown.frozenAt k
              rw [bytV, List.getElem?_map, List.getElem?_eq_getElem (by omega)] at hck
              simp only [Option.map_some] at hck
              have hst := (hown.stored k (.int .u8 (y.toNat : Int))).1
              rw [show (bytV L).set k (.int .u8 (y.toNat : Int)) = bytV (L.set k y) by simp [bytV, List.map_set]] at hst
              have HDC := Lib.hid (doc_of_owns hst (by omega))
              have hz4 := hb4.size
              have hz3 := hbr3.size
              clear hst hown hg hcs hcx
              go_wp2_with fail
              refine (tells_at HDC.out (by omega) 64 999).mono ?_
              rintro e w5 ⟨rfl, hb5⟩
              have hz5 := hb5.size
              go_wp2_with fail
              refine (tells_at (HDC.out.below hb5) (by omega) _ _).mono ?_
              rintro e w6 ⟨rfl, hb6⟩
              simp only [zsz] at hz5
              go_wp2_with fail
              go_roundw
              case rel => exact ⟨m + 1 + m / 24, by omega, by (first | (go_num) | (congr 1; push_cast; omega)), by (repeat' first | (with_reducible first | exact zb0 _ _ | assumption | refine zb1 ?_ ?_ _ | refine zb2 ?_ | refine zb3 ?_ _ | refine zb4 ?_ ?_ _ | refine zb5 (by assumption) ?_ ?_ | exact zb6 _) | omega | (simp <;> omega))⟩
              case measure => simp only [intOf]; omega
            · have hmm' : ¬ (m : Int) < 256 := by omega
              go_wp2_with fail
              go_roundw
              case rel => exact ⟨k + 1, by omega, by go_num, hbr3⟩
              case measure => simp only [intOf]; omega
        · have hlk' : ¬ (k : Int) < (n : Int) := by omega
          go_wp2_with fail
          go_loopw [6] (fun z wr4 => ∃ y : Int, -1 ≤ y ∧ y ≤ 20 ∧ z = .int .i64 y ∧ Below wd.heap.size wd wr4) (fun z _ => (20 - intOf z).toNat)
          case atStart => exact ⟨-1, by omega, by omega, rfl, hbr2⟩
          case round =>
            clear hc2 hbr2
            obtain ⟨y, hy1, hy2, rfl, hbr4⟩ := hrel
            have hc2 := (hbr4.cell (p := ⟨G, j, none⟩) hG).trans HC.out
            by_cases hy3 : y < 20
            · go_wp2_with fail
              refine (tells_at (HD.out.below hbr4) (by omega) 64 y).mono ?_
              rintro e w5 ⟨rfl, hb5⟩
              have hbr5 := below_call hb5 hbr4 hbr4.size
              have hc5 := (hbr5.cell (p := ⟨G, j, none⟩) hG).trans HC.out
              have hz5 := hb5.size
              go_wp2_with fail
              refine (tells_at (HD.out.below hbr5) (by omega) y 99).mono ?_
              rintro e w6 ⟨rfl, hb6⟩
              have hbr6 := below_call hb6 hbr5 hbr5.size
              have hc6 := (hbr6.cell (p := ⟨G, j, none⟩) hG).trans HC.out
              go_wp2_with fail
              refine (bud_at (HD.out.below hbr6) (by omega) 3 y).mono ?_
              rintro e w7 ⟨rfl, hb7⟩
              have hbr7 := below_call hb7 hbr6 hbr6.size
              have q1 : IntKind.i64.wrap (y + 1) = y + 1 := IntWalk.i64_in _ (by omega)
              go_wp2_with fail
              go_roundw
              case rel => exact ⟨y + 1, by omega, by omega, by (first | rfl | go_num), hbr7⟩
              case measure => simp only [intOf]; omega
            · go_wp2_with fail
              go_roundw
              case rel => exact ⟨j + 1, by omega, by go_num, hbr4⟩
              case measure => simp only [intOf]; omega
    · have hlt' : ¬ (j : Int) < 9 := by omega
      obtain ⟨b, n, L, hc, hD, hn22, hn1⟩ := HDD.out 0 (by omega)
      have HC := Lib.hid hc
      have HD := Lib.hid hD
      clear hc hD
      go_wp2_with fail
      refine (works_any _).mono ?_
      rintro e w5 ⟨rfl, hb5⟩
      have hbr5 := below_call hb5 hbr hbr.size
      go_wp2_with fail
      refine (tells_nil _ 64 99).mono ?_
      rintro e w6 ⟨rfl, hb6⟩
      have hbr6 := below_call hb6 hbr5 hbr5.size
      have hc6 := (hbr6.cell (p := ⟨G, 0, none⟩) hG).trans HC.out
      go_wp2_with fail
      refine (tells_at (HD.out.below hbr6) (by omega) _ _).mono ?_
      rintro e w7 ⟨rfl, hb7⟩
      have hbr7 := below_call hb7 hbr6 hbr6.size
      have hc7 := (hbr7.cell (p := ⟨G, 0, none⟩) hG).trans HC.out
      go_wp2_with fail
      refine (tells_at (HD.out.below hbr7) (by omega) _ _).mono ?_
      rintro e w8 ⟨rfl, hb8⟩
      have hbr8 := below_call hb8 hbr7 hbr7.size
      go_wp2_with fail
      go_returns
      exact ⟨rfl, hbd.trans (hbr8.mono (by omega))⟩
end Go.Proofs.Ytmpflnlajakibaa
