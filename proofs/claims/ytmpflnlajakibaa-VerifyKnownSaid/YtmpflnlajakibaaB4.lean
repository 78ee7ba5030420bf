/- EqBytes; what the laws hold of their argument's head, read as a string. The law VerifyTells: its walk. -/
import Derived.Test.YtmpflnlajakibaaIn
import Derived.Test.YtmpflnlajakibaaWalk7
import Derived.Test.YtmpflnlajakibaaGive
import Derived.Test.YtmpflnlajakibaaChkg
namespace Go.Proofs.Ytmpflnlajakibaa
set_option linter.unusedVariables false
set_option linter.unusedSimpArgs false
section
open Go.RowKit
theorem conv_nil (W : World) : (convert 22 9 (.slice none 0 0)).run Try.prog W = .ok (strV []) W :=
  run_convert_bytes_nil W 22 5 Try.underlying22 Try.underlying5 0 0 9 Try.underlying9
theorem conv_row (b o k c : Nat) (L : List UInt8) (hL : L.length = k) (W : World) (hat : ∀ i (h : i < L.length), W.cell? ⟨b, o + i, none⟩ = some (.int .u8 (L[i].toNat : Int))) :
    (convert 22 9 (.slice (some ⟨b, o, none⟩) k c)).run Try.prog W = .ok (strV L) W := by
  have hlen : (L.map fun (y : UInt8) => (y.toNat : Int)).length = k := by simp [hL]
  rw [run_convert_bytes_arg W 22 5 Try.underlying22 Try.underlying5 b o k c _ hlen (fun i hi => by
    rw [hat i (by omega), List.getD_eq_getElem?_getD, List.getElem?_eq_getElem (by simp; omega)]; simp) 9 Try.underlying9]
  congr 2
  simp only [strOfNums]
  congr 2
  rw [List.map_map]
  conv => rhs; rw [← List.map_id L]
  apply List.map_congr_left
  intro y _
  simp
theorem byt_conv {W : World} {v : Value} {L : List UInt8} (h : Byt W v L) : (convert 22 9 v).run Try.prog W = .ok (strV L) W := by
  rcases h with ⟨rfl, rfl⟩ | ⟨b, o, cap, rfl, hD⟩
  · exact conv_nil W
  · exact conv_row b o _ cap L rfl W hD.at_
theorem conv_empty (a : Option Addr) (c : Nat) (W : World) : (convert 22 9 (.slice a 0 c)).run Try.prog W = .ok (strV []) W := by
  rw [run_convert_bytes_string W 22 9 5 a 0 c Try.underlying22 Try.underlying5 Try.underlying9]
  cases a <;> simp [Conv.bytesToString, strV, loadCells, loadCellsFrom] <;> rfl
set_option maxHeartbeats 1000000 in
theorem eqb_true (u v : Value) (L : List UInt8) (w : World) (hu : (convert 22 9 u).run Try.prog w = .ok (strV L) w) (hv : (convert 22 9 v).run Try.prog w = .ok (strV L) w) :
    Calls Try.prog 14 #[u, v] w fun e w' => e = .returned (.bool true) ∧ w = w' := by
  have HU := Lib.hid hu
  have HV := Lib.hid hv
  clear hu hv
  unfold strV at HU HV
  go_enter Try.func14, Try.ntmps14
  go_wp2_with (first | ((with_reducible refine conv_to (o := ⟨some 6, .convert 22 9 (.tmp 5), _, _, _, _⟩) ?_ 22 9 (.tmp 5) ?_ u (.string ⟨L.toArray⟩) ?_ ?_ ?_); rfl; rfl; rfl; (exact HU.out)) | ((with_reducible refine conv_to (o := ⟨some 8, .convert 22 9 (.tmp 7), _, _, _, _⟩) ?_ 22 9 (.tmp 7) ?_ v (.string ⟨L.toArray⟩) ?_ ?_ ?_); rfl; rfl; rfl; (exact HV.out)))
  go_returns
  exact ⟨by simp, rfl⟩
/-- The head of b, K bytes at most, copied; and read as a string where it lies. -/
def FrontOk (K : Nat) (w : World) (a : Option Addr) (len cap : Nat) : Prop := ∃ (k c : Nat) (L : List UInt8), (k : Int) = min (len : Int) K ∧ L.length = k ∧ k ≤ K ∧
      (∀ W : World, (Instr.slice 22 (.slice a len cap) none (some (.int .i64 (min (len : Int) K))) none).run Try.prog W = .ok (.slice a k c) W) ∧
      (∀ W : World, Below w.heap.size w W → Calls Try.prog 11 #[.slice a k c] W fun e W' => (∃ v, e = .returned v ∧ Byt W' v L) ∧ Below W.heap.size W W') ∧
      ∀ W : World, Below w.heap.size w W → (convert 22 9 (.slice a k c)).run Try.prog W = .ok (strV L) W
theorem front_doc (K : Nat) (hK : K ≤ 1073741824) {w : World} {b o n cap : Nat} {L : List UInt8} (hD : Doc w b o n cap L) (hn : n ≤ K) : FrontOk K w (some ⟨b, o, none⟩) n cap := by
  have hl := hD.len
  have hle := hD.le
  have hmx := hD.max
  unfold maxLen at hmx
  refine ⟨n, cap, L, by omega, hl, hn, fun W => ?_, fun W hW => ?_, fun W hW => ?_⟩
  · rw [run_slice_h W 22 _ n cap und_bytes .i64 _ (by omega) (by omega), size_u8]
    simp only [Result.andThen_ok, sliced, Option.map_some]
    have : (⟨b, o, none⟩ : Addr).add (0 * 1) = ⟨b, o, none⟩ := by simp [Addr.add]
    rw [this, ite_self, Nat.sub_zero, Nat.sub_zero, show (min (n : Int) (K : Int)).toNat = n by omega]
  · refine copy_mem ⟨b, o, none⟩ n cap L W hl (fun i hi => ?_) (by omega)
    have := (hD.below hW).at_ i hi
    rw [show ((⟨b, o, none⟩ : Addr).add i) = ⟨b, o + i, none⟩ by simp only [Addr.add]; split <;> simp_all]
    exact this
  · exact conv_row b o n cap L hl W (fun i hi => (hD.below hW).at_ i hi)
theorem front2 (K : Nat) (hK : K ≤ 1073741824) {w : World} {a : Option Addr} {len cap : Nat} {zs : List Int} (h : IsRow .u8 w a len cap zs) : FrontOk K w a len cap := by
  rcases h with ⟨rfl, rfl, rfl, rfl⟩ | ⟨x, rfl, hl, hm, hz, hcell, hwz⟩
  · refine ⟨0, 0, [], by omega, rfl, by omega, fun W => ?_, fun W _ => (copy_nil W).mono fun e w' hh => ⟨⟨_, hh.1, .inl ⟨rfl, rfl⟩⟩, hh.2 ▸ Below.refl _ _⟩, fun W _ => conv_nil W⟩
    rw [show min ((0 : Nat) : Int) (K : Int) = 0 by omega, run_slice_h W 22 _ 0 0 und_bytes .i64 0 (by omega) (by omega), size_u8]
    rfl
  · unfold maxLen at hm
    have hkl : min len K ≤ zs.length := by omega
    have hcells : ∀ W : World, Below w.heap.size w W → ∀ i (h : i < ((zs.take (min len K)).map (fun (n : Int) => n.toNat.toUInt8)).length), W.cell? (x.add i) = some (.int .u8 ((((zs.take (min len K)).map (fun (n : Int) => n.toNat.toUInt8))[i]).toNat : Int)) := by
      intro W hW i hi
      simp only [List.length_map, List.length_take] at hi
      have hi' : i < zs.length := by omega
      have hc := hcell i hi'
      have hb : (x.add i).block < w.heap.size := by
        cases hx : w.heap[(x.add i).block]? with
        | none => simp [World.cell?, hx] at hc
        | some ob => exact (Array.getElem?_eq_some_iff.1 hx).1
      rw [hW.cell (p := x.add i) hb, hc]
      have hw := wf_in8 (hwz _ (List.getElem_mem hi'))
      rw [List.getD_eq_getElem?_getD, List.getElem?_eq_getElem hi']
      simp only [Option.getD_some, List.getElem_map, List.getElem_take]
      congr 2
      simp
      omega
    refine ⟨min len K, cap, (zs.take (min len K)).map (fun (n : Int) => n.toNat.toUInt8), by omega, by simp; omega, by omega, fun W => ?_, fun W hW => copy_mem x _ _ _ W (by simp; omega) (hcells W hW) (by omega), fun W hW => ?_⟩
    · rw [run_slice_h W 22 _ len cap und_bytes .i64 _ (by omega) (by omega), size_u8]
      simp only [Result.andThen_ok, sliced, Option.map_some]
      have : x.add (0 * 1) = x := by simp [Addr.add]
      rw [this, ite_self, Nat.sub_zero, Nat.sub_zero, show (min (len : Int) (K : Int)).toNat = min len K by omega]
    · by_cases h0 : min len K = 0
      · rw [h0]; exact conv_empty (some x) cap W
      · have hx0 := hcells W hW 0 (by simp; omega)
        obtain ⟨b, o, spot⟩ := x
        have hspot : spot = none := by simpa [Addr.add] using World.cell?_spot hx0
        subst hspot
        refine conv_row b o _ cap _ (by simp; omega) W (fun i hi => ?_)
        have := hcells W hW i hi
        rw [show ((⟨b, o, none⟩ : Addr).add i) = ⟨b, o + i, none⟩ by simp only [Addr.add]; split <;> simp_all] at this
        exact this
end
section
open Go.RowKit
def CheckIs3 (v : Value) (D : List UInt8) (dp B x1 x2 x3 x4 : Int) : Prop := ∀ W, Byt W v D → Calls Try.prog 12 #[v, .int .i64 dp, .int .i64 B] W fun en w' => en = .returned (.tuple #[.agg #[.int .i64 x1, .int .i64 x2, .int .i64 x3], .int .i64 x4]) ∧ Below W.heap.size W w'
def RCheckIs (v : Value) (D : List UInt8) (dp B x1 x2 x3 x4 : Int) : Prop := ∀ W, Byt W v D → Calls Try.prog 13 #[v, .int .i64 dp, .int .i64 B] W fun en w' => en = .returned (.tuple #[.agg #[.int .i64 x1, .int .i64 x2, .int .i64 x3], .int .i64 x4]) ∧ Below W.heap.size W w'
set_option maxHeartbeats 4000000 in
theorem tells_core (a0 : Option Addr) (len0 cap0 : Nat) (a1 : Int) (a2 : Int) (w : World) (hF : FrontOk 600 w a0 len0 cap0) :
    Calls Try.prog 3 #[.slice a0 len0 cap0, .int .i64 a1, .int .i64 a2] w fun e w' => e = .returned (.bool true) ∧ Below w.heap.size w w' := by
  obtain ⟨k, c, L, hk, hL, hk5, hsl, hcp, hcv⟩ := hF
  have hsl' : ∀ W : World, (Instr.slice 22 (.slice a0 len0 cap0) none (some (.int .i64 (min (len0 : Int) 600))) none).run Try.prog W = .ok (.slice a0 k c) W := hsl
  have HCP := Lib.hid hcp
  have HCV := Lib.hid hcv
  have HK := Lib.hid hk
  clear hcp hk hsl hcv
  obtain ⟨m, hm⟩ : ∃ m, min a2 4000 = m := ⟨_, rfl⟩
  have m1 : m ≤ 4000 := by omega
  have HX : ∀ v, CheckIs3 v L a1 m (checkM L a1 m).1.1 (checkM L a1 m).1.2.1 (checkM L a1 m).1.2.2 (checkM L a1 m).2 := fun v W hW => check_byt v L W hW a1 m (by omega)
  have HY : ∀ v, RCheckIs v L a1 m (checkM L a1 m).1.1 (checkM L a1 m).1.2.1 (checkM L a1 m).1.2.2 (checkM L a1 m).2 := fun v W hW => rcheck_byt v L W hW a1 m (by omega)
  generalize (checkM L a1 m).1.1 = x1 at *
  generalize (checkM L a1 m).1.2.1 = x2 at *
  generalize (checkM L a1 m).1.2.2 = x3 at *
  generalize (checkM L a1 m).2 = x4 at *
  have HX' := Lib.hid HX
  have HY' := Lib.hid HY
  clear HX HY hL hk5 HK
  go_enter Try.func3, Try.ntmps3
  go_wp2_with fail
  refine (HCP.out _ (by (repeat' first | (with_reducible first | exact zb0 _ _ | assumption | refine zb1 ?_ ?_ _ | refine zb2 ?_ | refine zb3 ?_ _ | refine zb4 ?_ ?_ _ | refine zb5 (by assumption) ?_ ?_ | exact zb6 _) | omega | (simp <;> omega)))).mono ?_
  rintro e w1 ⟨⟨v, rfl, hv⟩, hb1⟩
  have hz1 := hb1.size
  go_wp2_with fail
  refine (HX'.out v _ (hv.below (by (repeat' first | (with_reducible first | exact zb0 _ _ | assumption | refine zb1 ?_ ?_ _ | refine zb2 ?_ | refine zb3 ?_ _ | refine zb4 ?_ ?_ _ | refine zb5 (by assumption) ?_ ?_ | exact zb6 _) | omega | (simp <;> omega))))).mono ?_
  rintro e w2 ⟨rfl, hb2⟩
  have hz2 := hb2.size
  go_wp2_with fail
  refine (HY'.out v _ (hv.below (by (repeat' first | (with_reducible first | exact zb0 _ _ | assumption | refine zb1 ?_ ?_ _ | refine zb2 ?_ | refine zb3 ?_ _ | refine zb4 ?_ ?_ _ | refine zb5 (by assumption) ?_ ?_ | exact zb6 _) | omega | (simp <;> omega))))).mono ?_
  rintro e w3 ⟨rfl, hb3⟩
  obtain ⟨hc3, -, -⟩ := bcell hb3
  have hz3 := hb3.size
  simp only [World.size_alloc] at hz3
  have g2_3 : w2.heap.size < w3.heap.size := by omega
  have k2_3 : w2.heap.size < w3.heap.size + 1 := by omega
  go_wp2_with fail
  refine (eqb_true v (.slice a0 k c) L _ (byt_conv (hv.below (by (repeat' first | (with_reducible first | exact zb0 _ _ | assumption | refine zb1 ?_ ?_ _ | refine zb2 ?_ | refine zb3 ?_ _ | refine zb4 ?_ ?_ _ | refine zb5 (by assumption) ?_ ?_ | exact zb6 _) | omega | (simp <;> omega))))) (HCV.out _ (by (repeat' first | (with_reducible first | exact zb0 _ _ | assumption | refine zb1 ?_ ?_ _ | refine zb2 ?_ | refine zb3 ?_ _ | refine zb4 ?_ ?_ _ | refine zb5 (by assumption) ?_ ?_ | exact zb6 _) | omega | (simp <;> omega))))).mono ?_
  rintro e w4 ⟨rfl, rfl⟩
  go_wp2_with fail
  refine (works_any _).mono ?_
  rintro e w9 ⟨rfl, hb9⟩
  go_wp2
  go_returns
  exact ⟨rfl, by (repeat' first | (with_reducible first | exact zb0 _ _ | assumption | refine zb1 ?_ ?_ _ | refine zb2 ?_ | refine zb3 ?_ _ | refine zb4 ?_ ?_ _ | refine zb5 (by assumption) ?_ ?_ | exact zb6 _) | omega | (simp <;> omega))⟩
end
end Go.Proofs.Ytmpflnlajakibaa
