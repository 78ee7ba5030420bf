/- Bytes as the laws hold them: nil, or a document in memory; copies; the example. -/
import Derived.Test.YtmpflnlajakibaaWalk7
import Derived.Deep.RegionLaw
import Derived.Laws.AppendOwn
import Derived.Laws.AppendOwnNone
import Derived.Laws.Rows
namespace Go.Proofs.Ytmpflnlajakibaa
set_option linter.unusedVariables false
set_option linter.unusedSimpArgs false
set_option linter.unusedSectionVars false
open Go.RowKit
/-- A slice of bytes that reads as L: nil, or in memory. -/
def Byt (w : World) (v : Value) (L : List UInt8) : Prop := (v = .slice none 0 0 ∧ L = []) ∨ ∃ b o cap, v = .slice (some ⟨b, o, none⟩) L.length cap ∧ Doc w b o L.length cap L
theorem Byt.below {w w' : World} {v : Value} {L : List UInt8} (h : Byt w v L) (hb : Below w.heap.size w w') : Byt w' v L := by
  rcases h with h | ⟨b, o, cap, h1, h2⟩
  · exact .inl h
  · exact .inr ⟨b, o, cap, h1, h2.below hb⟩
def bytV (L : List UInt8) : List Value := L.map fun x => .int .u8 (x.toNat : Int)
theorem bytesAt_row {w : World} {g : Nat} {L : List UInt8} {cur : Array Value} {e : TypeId} {fr : Nat × Nat} (h : w.heap[g]? = some (.cells cur e fr)) (hc : cur.toList.take L.length = bytV L) : BytesAt w g 0 L := by
  intro i hi
  have hx : cur[i]? = some (.int .u8 (L[i].toNat : Int)) := by
    have h9 : (cur.toList.take L.length)[i]? = (bytV L)[i]? := by rw [hc]
    rw [List.getElem?_take_of_lt hi, bytV, List.getElem?_map, List.getElem?_eq_getElem hi] at h9
    simpa using h9
  have := cell_of_row w g (0 + i) cur e fr h
  rw [this, Nat.zero_add]; exact hx
theorem byt_of_owns {w : World} {B : Nat} {e : TypeId} {v : Value} {n : Nat} {L : List UInt8} (h : w.ownsRow B e 1 v n (bytV L)) (hs : n ≤ 1073741824) : Byt w v L := by
  obtain ⟨h1, h2 | ⟨g, cap, cur, rfl, h3, h4, h5, h6, h7, h8⟩⟩ := h
  · obtain ⟨rfl, rfl⟩ := h2
    simp [bytV] at h1
    exact .inl ⟨rfl, h1⟩
  · simp only [bytV, List.length_map, Nat.mul_one] at h1 h7 h8
    subst h1
    exact .inr ⟨g, 0, cap, rfl, rfl, by omega, h6, by omega, bytesAt_row h4 h8, (Array.getElem?_eq_some_iff.1 h4).1⟩
theorem u8info : (Try.prog.info? 5).map (fun i => (i.zero, i.size, i.bytes)) = some (some (.int .u8 0), 1, 1) := by kernel_rfl
/-- CopyBytes. -/
theorem copy_nil (w : World) : Calls Try.prog 11 #[.slice none 0 0] w fun e w' => e = .returned (.slice none 0 0) ∧ w = w' := by
  obtain ⟨i0, hi, hz0, hz1, hz2⟩ := info_parts u8info
  go_enter Try.func11, Try.ntmps11
  go_wp2_with (at_builtin; refine wpList_append_own_none rfl _ _ 22 rfl 0 5 i0 1 Try.underlying22 hi (.slice none 0 0) 0 [] rfl ⟨rfl, .inl ⟨rfl, rfl⟩⟩ rfl ?_)
  go_returns
  exact ⟨rfl, rfl⟩
theorem copy_mem (ad : Addr) (m c : Nat) (L : List UInt8) (w : World) (hL : L.length = m) (hat : ∀ i (h : i < L.length), w.cell? (ad.add i) = some (.int .u8 (L[i].toNat : Int))) (hm : m ≤ 1073741824) :
    Calls Try.prog 11 #[.slice (some ad) m c] w fun e w' => (∃ v, e = .returned v ∧ Byt w' v L) ∧ Below w.heap.size w w' := by
  obtain ⟨i0, hi, hz0, hz1, hz2⟩ := info_parts u8info
  have HL := Lib.hid hL
  have HA := Lib.hid hat
  clear hL hat
  go_enter Try.func11, Try.ntmps11
  go_wp2_with (at_builtin; refine wpList_append_own _ rfl _ _ 22 rfl w.heap.size 5 i0 (.int .u8 0) 1 1 Try.underlying22 hi hz0 hz1 hz2 rfl (by decide) (.slice none 0 0) 0 [] rfl ⟨rfl, .inl ⟨rfl, rfl⟩⟩ ad m c (bytV L) rfl ?c1 ?c2 ?c3 ?c4 ?c5 ?c6 ?_)
  case c1 => simp [bytV, HL.out]
  case c2 =>
    intro j u hj
    rw [bytV, List.getElem?_map] at hj
    cases hx : L[j]? with
    | none => rw [hx] at hj; cases hj
    | some y =>
      rw [hx] at hj
      obtain ⟨hl, rfl⟩ := List.getElem?_eq_some_iff.1 hx
      cases hj
      exact HA.out j hl
  case c3 =>
    intro u hu
    obtain ⟨y, -, rfl⟩ := List.mem_map.1 hu
    rfl
  case c4 => unfold maxLen; omega
  case c5 => omega
  case c6 => exact Nat.le_refl _
  intro v' w' hown hgrow _
  have hbt := Lib.hid (byt_of_owns hown (by omega))
  have hbl := Lib.hid ((Below.refl w.heap.size w).grown hgrow (Nat.le_refl _) (fun k hk => by cases hk))
  clear hown hgrow
  go_wp2
  go_returns
  exact ⟨⟨_, rfl, hbt.out⟩, hbl.out⟩
/-- What a law is told of a slice of integers that came in. -/
def IsRow (k : IntKind) (w : World) (a : Option Addr) (len cap : Nat) (zs : List Int) : Prop :=
  (a = none ∧ len = 0 ∧ cap = 0 ∧ zs = []) ∨
  ∃ x, a = some x ∧ len ≤ cap ∧ cap ≤ maxLen ∧ zs.length = cap ∧ (∀ i, i < zs.length → w.cell? (x.add i) = some (.int k (zs.getD i 0))) ∧ ∀ n ∈ zs, (Lit.int k n).wf = true
theorem wf_in8 {n : Int} (h : (Lit.int .u8 n).wf = true) : 0 ≤ n ∧ n < 256 := by
  have h' : IntKind.u8.min ≤ n ∧ n ≤ IntKind.u8.max := by simpa [Lit.wf] using h
  have e1 : IntKind.u8.min = 0 := rfl
  have e2 : IntKind.u8.max = 255 := rfl
  omega
/-- The head of b, K bytes at most, copied: how the laws begin. -/
theorem front (K : Nat) (hK : K ≤ 1073741824) {w : World} {a : Option Addr} {len cap : Nat} {zs : List Int} (h : IsRow .u8 w a len cap zs) :
    ∃ (k c : Nat) (L : List UInt8), (k : Int) = min (len : Int) K ∧ L.length = k ∧ k ≤ K ∧
      (∀ W : World, (Instr.slice 22 (.slice a len cap) none (some (.int .i64 (min (len : Int) K))) none).run Try.prog W = .ok (.slice a k c) W) ∧
      ∀ W : World, Below w.heap.size w W → Calls Try.prog 11 #[.slice a k c] W fun e W' => (∃ v, e = .returned v ∧ Byt W' v L) ∧ Below W.heap.size W W' := by
  rcases h with ⟨rfl, rfl, rfl, rfl⟩ | ⟨x, rfl, hl, hm, hz, hcell, hwz⟩
  · refine ⟨0, 0, [], by omega, rfl, by omega, fun W => ?_, fun W _ => (copy_nil W).mono fun e w' hh => ⟨⟨_, hh.1, .inl ⟨rfl, rfl⟩⟩, hh.2 ▸ Below.refl _ _⟩⟩
    rw [show min ((0 : Nat) : Int) (K : Int) = 0 by omega, run_slice_h W 22 _ 0 0 und_bytes .i64 0 (by omega) (by omega), size_u8]
    rfl
  · unfold maxLen at hm
    have hkl : min len K ≤ zs.length := by omega
    refine ⟨min len K, cap, (zs.take (min len K)).map (fun n => n.toNat.toUInt8), by omega, by simp; omega, by omega, fun W => ?_, fun W hW => ?_⟩
    · rw [run_slice_h W 22 _ len cap und_bytes .i64 _ (by omega) (by omega), size_u8]
      simp only [Result.andThen_ok, sliced, Option.map_some]
      have : x.add (0 * 1) = x := by simp [Addr.add]
      rw [this, ite_self, Nat.sub_zero, Nat.sub_zero, show (min (len : Int) (K : Int)).toNat = min len K by omega]
    · refine copy_mem x _ _ _ W (by simp; omega) (fun i hi => ?_) (by omega)
      simp only [List.length_map, List.length_take] at hi
      have hi' : i < zs.length := by omega
      have hc := hcell i hi'
      have hb : (x.add i).block < w.heap.size := by
        cases hx : w.heap[(x.add i).block]? with
        | none => simp [World.cell?, hx] at hc
        | some ob => exact (Array.getElem?_eq_some_iff.1 hx).1
      rw [hW.cell (p := x.add i) hb, hc]
      have hw := wf_in8 (hwz _ (List.getElem_mem hi'))
      rw [List.getD_eq_getElem?_getD, List.getElem?_eq_getElem hi']
      simp only [Option.getD_some, List.getElem_map, List.getElem_take]
      congr 2
      simp
      omega
theorem doc_row {w : World} {g : Nat} {L : List UInt8} {cur : Array Value} {e : TypeId} {fr : Nat × Nat} (h : w.heap[g]? = some (.cells cur e fr)) (hc : cur.toList = bytV L) (hs : L.length ≤ 1073741824) : Doc w g 0 L.length L.length L :=
  ⟨rfl, Nat.le_refl _, by unfold maxLen; omega, hs, bytesAt_row h (by rw [hc, List.take_of_length_le (by simp [bytV])]), (Array.getElem?_eq_some_iff.1 h).1⟩
/-- The example of chapter 25, and with another byte. -/
def exD : List UInt8 := [97, 0, 98, 0, 2, 5, 4, 2, 1, 2, 0, 1, 0, 4, 4, 36, 1]
def exD6 : List UInt8 := [97, 0, 98, 0, 2, 5, 6, 2, 1, 2, 0, 1, 0, 4, 4, 36, 1]
theorem example_0 (w : World) : Calls Try.prog 18 #[.int .i64 0, .int .u8 97] w fun e w' => (e = .returned (.slice (some ⟨w.heap.size, 0, none⟩) 17 17) ∧ Doc w' w.heap.size 0 17 17 exD) ∧ Below w.heap.size w w' := by
  go_enter Try.func18, Try.ntmps18
  go_wp2
  go_returns
  refine ⟨⟨rfl, ?_⟩, (Below.refl _ _).alloc (Nat.le_refl _) _⟩
  exact doc_row (L := exD) (heap_alloc_new _ _) rfl (by decide)
theorem example_6 (w : World) : Calls Try.prog 18 #[.int .i64 6, .int .u8 6] w fun e w' => (e = .returned (.slice (some ⟨w.heap.size, 0, none⟩) 17 17) ∧ Doc w' w.heap.size 0 17 17 exD6) ∧ Below w.heap.size w w' := by
  go_enter Try.func18, Try.ntmps18
  go_wp2
  go_returns
  refine ⟨⟨rfl, ?_⟩, (Below.refl _ _).alloc (Nat.le_refl _) _⟩
  exact doc_row (L := exD6) (heap_alloc_new _ _) rfl (by decide)
section
open Go.RowKit
theorem conv_nil (W : World) : (convert 22 9 (.slice none 0 0)).run Try.prog W = .ok (strV []) W :=
  run_convert_bytes_nil W 22 5 Try.underlying22 Try.underlying5 0 0 9 Try.underlying9
theorem conv_row (b o k c : Nat) (L : List UInt8) (hL : L.length = k) (W : World) (hat : ∀ i (h : i < L.length), W.cell? ⟨b, o + i, none⟩ = some (.int .u8 (L[i].toNat : Int))) :
    (convert 22 9 (.slice (some ⟨b, o, none⟩) k c)).run Try.prog W = .ok (strV L) W := by
  have hlen : (L.map fun (y : UInt8) => (y.toNat : Int)).length = k := by simp [hL]
  rw [run_convert_bytes_arg W 22 5 Try.underlying22 Try.underlying5 b o k c _ hlen (fun i hi => by
    rw [hat i (by omega), List.getD_eq_getElem?_getD, List.getElem?_eq_getElem (by simp; omega)]; simp) 9 Try.underlying9]
  congr 2
  simp only [strOfNums]
  congr 2
  rw [List.map_map]
  conv => rhs; rw [← List.map_id L]
  apply List.map_congr_left
  intro y _
  simp
theorem byt_conv {W : World} {v : Value} {L : List UInt8} (h : Byt W v L) : (convert 22 9 v).run Try.prog W = .ok (strV L) W := by
  rcases h with ⟨rfl, rfl⟩ | ⟨b, o, cap, rfl, hD⟩
  · exact conv_nil W
  · exact conv_row b o _ cap L rfl W hD.at_
theorem conv_empty (a : Option Addr) (c : Nat) (W : World) : (convert 22 9 (.slice a 0 c)).run Try.prog W = .ok (strV []) W := by
  rw [run_convert_bytes_string W 22 9 5 a 0 c Try.underlying22 Try.underlying5 Try.underlying9]
  cases a <;> simp [Conv.bytesToString, strV, loadCells, loadCellsFrom] <;> rfl
set_option maxHeartbeats 1000000 in
theorem eqb_true (u v : Value) (L : List UInt8) (w : World) (hu : (convert 22 9 u).run Try.prog w = .ok (strV L) w) (hv : (convert 22 9 v).run Try.prog w = .ok (strV L) w) :
    Calls Try.prog 14 #[u, v] w fun e w' => e = .returned (.bool true) ∧ w = w' := by
  have HU := Lib.hid hu
  have HV := Lib.hid hv
  clear hu hv
  unfold strV at HU HV
  go_enter Try.func14, Try.ntmps14
  go_wp2_with (first | ((with_reducible refine conv_to (o := ⟨some 6, .convert 22 9 (.tmp 5), _, _, _, _⟩) ?_ 22 9 (.tmp 5) ?_ u (.string ⟨L.toArray⟩) ?_ ?_ ?_); rfl; rfl; rfl; (exact HU.out)) | ((with_reducible refine conv_to (o := ⟨some 8, .convert 22 9 (.tmp 7), _, _, _, _⟩) ?_ 22 9 (.tmp 7) ?_ v (.string ⟨L.toArray⟩) ?_ ?_ ?_); rfl; rfl; rfl; (exact HV.out)))
  go_returns
  exact ⟨by simp, rfl⟩
/-- The head of b, K bytes at most, copied; and read as a string where it lies. -/
def FrontOk (K : Nat) (w : World) (a : Option Addr) (len cap : Nat) : Prop := ∃ (k c : Nat) (L : List UInt8), (k : Int) = min (len : Int) K ∧ L.length = k ∧ k ≤ K ∧
      (∀ W : World, (Instr.slice 22 (.slice a len cap) none (some (.int .i64 (min (len : Int) K))) none).run Try.prog W = .ok (.slice a k c) W) ∧
      (∀ W : World, Below w.heap.size w W → Calls Try.prog 11 #[.slice a k c] W fun e W' => (∃ v, e = .returned v ∧ Byt W' v L) ∧ Below W.heap.size W W') ∧
      ∀ W : World, Below w.heap.size w W → (convert 22 9 (.slice a k c)).run Try.prog W = .ok (strV L) W
theorem front_doc (K : Nat) (hK : K ≤ 1073741824) {w : World} {b o n cap : Nat} {L : List UInt8} (hD : Doc w b o n cap L) (hn : n ≤ K) : FrontOk K w (some ⟨b, o, none⟩) n cap := by
  have hl := hD.len
  have hle := hD.le
  have hmx := hD.max
  unfold maxLen at hmx
  refine ⟨n, cap, L, by omega, hl, hn, fun W => ?_, fun W hW => ?_, fun W hW => ?_⟩
  · rw [run_slice_h W 22 _ n cap und_bytes .i64 _ (by omega) (by omega), size_u8]
    simp only [Result.andThen_ok, sliced, Option.map_some]
    have : (⟨b, o, none⟩ : Addr).add (0 * 1) = ⟨b, o, none⟩ := by simp [Addr.add]
    rw [this, ite_self, Nat.sub_zero, Nat.sub_zero, show (min (n : Int) (K : Int)).toNat = n by omega]
  · refine copy_mem ⟨b, o, none⟩ n cap L W hl (fun i hi => ?_) (by omega)
    have := (hD.below hW).at_ i hi
    rw [show ((⟨b, o, none⟩ : Addr).add i) = ⟨b, o + i, none⟩ by simp only [Addr.add]; split <;> simp_all]
    exact this
  · exact conv_row b o n cap L hl W (fun i hi => (hD.below hW).at_ i hi)
theorem front2 (K : Nat) (hK : K ≤ 1073741824) {w : World} {a : Option Addr} {len cap : Nat} {zs : List Int} (h : IsRow .u8 w a len cap zs) : FrontOk K w a len cap := by
  rcases h with ⟨rfl, rfl, rfl, rfl⟩ | ⟨x, rfl, hl, hm, hz, hcell, hwz⟩
  · refine ⟨0, 0, [], by omega, rfl, by omega, fun W => ?_, fun W _ => (copy_nil W).mono fun e w' hh => ⟨⟨_, hh.1, .inl ⟨rfl, rfl⟩⟩, hh.2 ▸ Below.refl _ _⟩, fun W _ => conv_nil W⟩
    rw [show min ((0 : Nat) : Int) (K : Int) = 0 by omega, run_slice_h W 22 _ 0 0 und_bytes .i64 0 (by omega) (by omega), size_u8]
    rfl
  · unfold maxLen at hm
    have hkl : min len K ≤ zs.length := by omega
    have hcells : ∀ W : World, Below w.heap.size w W → ∀ i (h : i < ((zs.take (min len K)).map (fun (n : Int) => n.toNat.toUInt8)).length), W.cell? (x.add i) = some (.int .u8 ((((zs.take (min len K)).map (fun (n : Int) => n.toNat.toUInt8))[i]).toNat : Int)) := by
      intro W hW i hi
      simp only [List.length_map, List.length_take] at hi
      have hi' : i < zs.length := by omega
      have hc := hcell i hi'
      have hb : (x.add i).block < w.heap.size := by
        cases hx : w.heap[(x.add i).block]? with
        | none => simp [World.cell?, hx] at hc
        | some ob => exact (Array.getElem?_eq_some_iff.1 hx).1
      rw [hW.cell (p := x.add i) hb, hc]
      have hw := wf_in8 (hwz _ (List.getElem_mem hi'))
      rw [List.getD_eq_getElem?_getD, List.getElem?_eq_getElem hi']
      simp only [Option.getD_some, List.getElem_map, List.getElem_take]
      congr 2
      simp
      omega
    refine ⟨min len K, cap, (zs.take (min len K)).map (fun (n : Int) => n.toNat.toUInt8), by omega, by simp; omega, by omega, fun W => ?_, fun W hW => copy_mem x _ _ _ W (by simp; omega) (hcells W hW) (by omega), fun W hW => ?_⟩
    · rw [run_slice_h W 22 _ len cap und_bytes .i64 _ (by omega) (by omega), size_u8]
      simp only [Result.andThen_ok, sliced, Option.map_some]
      have : x.add (0 * 1) = x := by simp [Addr.add]
      rw [this, ite_self, Nat.sub_zero, Nat.sub_zero, show (min (len : Int) (K : Int)).toNat = min len K by omega]
    · by_cases h0 : min len K = 0
      · rw [h0]; exact conv_empty (some x) cap W
      · have hx0 := hcells W hW 0 (by simp; omega)
        obtain ⟨b, o, spot⟩ := x
        have hspot : spot = none := by simpa [Addr.add] using World.cell?_spot hx0
        subst hspot
        refine conv_row b o _ cap _ (by simp; omega) W (fun i hi => ?_)
        have := hcells W hW i hi
        rw [show ((⟨b, o, none⟩ : Addr).add i) = ⟨b, o + i, none⟩ by simp only [Addr.add]; split <;> simp_all] at this
        exact this
end
section
open Go.RowKit
section
variable {P : Program} (w : World)
/-- An append to an own row: the new row is the old one or lies in a new block. -/
theorem run_append_where (t ty e : TypeId) (i : TypeInfo) (z : Value) (size bytes : Nat) (ht : P.underlying t = some (.slice e)) (hi : P.info? e = some i) (hz : i.zero = some z)
    (hsize : i.size = size) (hby : i.bytes = bytes) (hzs : z.cells.size = size) (hsz : 0 < size)
    (v : Value) (n : Nat) (xs : List Value) (hown : w.ownsRow 0 e size v n xs)
    (a : Addr) (m c : Nat) (news : List Value) (hl : news.length = m * size) (hnews : ∀ j u, news[j]? = some u → w.cell? (a.add j) = some u) (h1 : ∀ u ∈ news, u.oneCell' = true)
    (h63 : n + m ≤ maxLen) (hbytes : (n + m) * bytes ≤ 140737488355328) :
    ∃ v' w', (Builtin.append_ #[t, t] ty #[v, .slice (some a) m c]).run P w = .ok v' w' ∧ w'.ownsRow 0 e size v' (n + m) (xs ++ news) ∧ w.grownBy w' v.ownBlock ∧
      (v'.ownBlock = v.ownBlock ∨ v'.ownBlock = some w.heap.size) := by
  obtain ⟨v', w', hr, h2, h3, h4⟩ := run_append_own (P := P) w 0 t ty e i z size bytes ht hi hz hsize hby hzs hsz v n xs hown a m c news hl hnews h1 h63 hbytes (Nat.zero_le _)
  refine ⟨v', w', hr, h2, h3, ?_⟩
  subst hsize
  subst hby
  have hsmall : n + m ≤ 9223372036854775807 := by simp only [maxLen] at h63; omega
  rcases hown.2 with ⟨rfl, rfl⟩ | ⟨g, cap, cur, rfl, hbg, hg, hnc, hcm, hcs, htake⟩
  · by_cases hm : m = 0
    · left
      rw [h4.2 ⟨rfl, hm⟩]
    · right
      have hx := run_append_nil (P := P) w t ty e i z ht hi hz a m c news hl hnews (by omega) (by omega) (by have hb := hbytes; simp only [Nat.zero_add] at hb; omega)
      rw [hx] at hr
      injection hr with hr _
      rw [← hr]; rfl
  · by_cases hroom : n + m ≤ cap
    · left
      have hfit : n * i.size + news.length ≤ cur.size := by rw [hl, hcs, ← Nat.add_mul]; exact Nat.mul_le_mul_right _ hroom
      have hx := run_append_room (P := P) w t ty e i ht hi g n cap cur hg a m c news hl hnews h1 hroom hfit
      rw [hx] at hr
      injection hr with hr _
      rw [← hr]; rfl
    · right
      have holds : ∀ j u, xs[j]? = some u → w.cell? ((⟨g, 0, none⟩ : Addr).add j) = some u := hown.cells (g := g) rfl
      have hx := run_append_grow (P := P) w t ty e i z ht hi hz ⟨g, 0, none⟩ n cap xs hown.1 holds a m c news hl hnews (by omega) (by omega) (growslice_fits (by omega) hbytes)
      rw [hx] at hr
      injection hr with hr _
      rw [← hr]; rfl
theorem wpList_append_where {ops : Array Oper} {rest : List Oper} {o : Oper} {a : Act} {Q : Exit → Act → World → Prop} (hgd : o.guard = none) (s x : Operand) (t : TypeId)
    (ho : o.op = .call { callee := .builtin .append, args := #[s, x], argTypes := #[t, t] })
    (e : TypeId) (i : TypeInfo) (z : Value) (size bytes : Nat) (ht : P.underlying t = some (.slice e)) (hi : P.info? e = some i) (hz : i.zero = some z)
    (hsize : i.size = size) (hby : i.bytes = bytes) (hzs : z.cells.size = size) (hsz : 0 < size)
    (v : Value) (n : Nat) (xs : List Value) (hs : a.eval s = v) (hown : w.ownsRow 0 e size v n xs)
    (ad : Addr) (m c : Nat) (news : List Value) (hx : a.eval x = .slice (some ad) m c) (hl : news.length = m * size) (hnews : ∀ j u, news[j]? = some u → w.cell? (ad.add j) = some u) (h1 : ∀ u ∈ news, u.oneCell' = true)
    (h63 : n + m ≤ maxLen) (hbytes : (n + m) * bytes ≤ 140737488355328)
    (h : ∀ v' w', w'.ownsRow 0 e size v' (n + m) (xs ++ news) → w.grownBy w' v.ownBlock → (v'.ownBlock = v.ownBlock ∨ v'.ownBlock = some w.heap.size) → wpList P ops Q rest (a.put o.dst v') w') : wpList P ops Q (o :: rest) a w := by
  obtain ⟨v', w', hr, h2, h3, h4⟩ := run_append_where (P := P) w t o.type e i z size bytes ht hi hz hsize hby hzs hsz v n xs hown ad m c news hl hnews h1 h63 hbytes
  refine wpList_plain hgd fun _ hK => ?_
  unfold Oper.wp execOp
  simp only [ho, resolve, invoke, builtin, Sem.run_bind, Sem.run_pure, Result.andThen_ok, List.map_toArray, List.map_cons, List.map_nil, hs, hx, hr]
  exact hK _ _ (h v' w' h2 h3 h4)
end
/-- The same, as one step of a region that draws its order. -/
theorem step_append_where {P : Program} {ops : Array Oper} {o : Oper} {a : Act} {w : World} {K : Act → World → Prop} {Q : Exit → Act → World → Prop} {E : Prop}
    (hg : o.guard = none) (s x : Operand) (t : TypeId) (hop : o.op = Op.call { callee := Callee.builtin Builtin.append, args := #[s, x], argTypes := #[t, t] })
    (e : TypeId) (i : TypeInfo) (z : Value) (size bytes : Nat) (ht : P.underlying t = some (.slice e)) (hi : P.info? e = some i) (hz : i.zero = some z)
    (hsize : i.size = size) (hby : i.bytes = bytes) (hzs : z.cells.size = size) (hsz : 0 < size)
    (v : Value) (n : Nat) (xs : List Value) (hs : a.eval s = v) (hown : w.ownsRow 0 e size v n xs)
    (ad : Addr) (m c : Nat) (news : List Value) (hx : a.eval x = .slice (some ad) m c) (hl : news.length = m * size) (hnews : ∀ j u, news[j]? = some u → w.cell? (ad.add j) = some u) (h1 : ∀ u ∈ news, u.oneCell' = true)
    (h63 : n + m ≤ maxLen) (hbytes : (n + m) * bytes ≤ 140737488355328)
    (hK : ∀ v' w', w'.ownsRow 0 e size v' (n + m) (xs ++ news) → w.grownBy w' v.ownBlock → (v'.ownBlock = v.ownBlock ∨ v'.ownBlock = some w.heap.size) → K (a.put o.dst v') w') :
    if Region.wanted o (yielded ops a.tmps) = true then Oper.wp P o a w K Q else E := by
  have hw : Region.wanted o (yielded ops a.tmps) = true := by simp [Region.wanted, hg]
  rw [if_pos hw]
  obtain ⟨v', w', hrun, h2, h3, h4⟩ := run_append_where (P := P) w t o.type e i z size bytes ht hi hz hsize hby hzs hsz v n xs hown ad m c news hl hnews h1 h63 hbytes
  unfold Oper.wp
  simp [execOp, hop, resolve, invoke, builtin, hs, hx, hrun, Result.andThen]
  exact hK v' w' h2 h3 h4
end
theorem wp_named {P : Program} {c : Code} {Q : Exit → Act → World → Prop} {a : Act} {W : World} (R : World → Prop) (hR : R W) (h : ∀ wn, R wn → c.wp P Q a wn) : c.wp P Q a W := h W hR
end Go.Proofs.Ytmpflnlajakibaa
