/- The walk of accordionlaw10.LexKnown: written by wip/gen/nx.py. -/
import Derived.Test.YtgdhepoffnpgiaaGreatDoorNw
import Derived.Test.YtgdhepoffnpgiaaGreatDoorShelf
namespace Go.Proofs.YtgdhepoffnpgiaaGreatDoor
set_option linter.unusedVariables false
set_option linter.unusedSimpArgs false
open Go.RowKit Go.Shelf
def headL : List (List UInt8) := [[], [32], [45], [48], [45, 48], [49], [49, 50], [49, 46], [49, 46, 53], [49, 101], [49, 69, 43], [49, 101, 45, 55], [110], [110, 117, 108], [110, 117, 108, 108], [102], [102, 97, 108, 115], [116], [116, 114], [116, 114, 117, 101], [34], [34, 97], [34, 92], [34, 92, 117, 48, 48, 101], [123], [91, 49], [44], [45, 57, 50, 50, 51, 51, 55, 50, 48, 51, 54, 56, 53, 52, 55, 55, 53, 56, 48, 56], [45, 57, 50, 50, 51, 51, 55, 50, 48, 51, 54, 56, 53, 52, 55, 55, 53, 56, 48, 57], [57, 50, 50, 51, 51, 55, 50, 48, 51, 54, 56, 53, 52, 55, 55, 53, 56, 48, 55], [57, 50, 50, 51, 51, 55, 50, 48, 51, 54, 56, 53, 52, 55, 55, 53, 56, 48, 56], [49, 56, 52, 52, 54, 55, 52, 52, 48, 55, 51, 55, 48, 57, 53, 53, 49, 54, 49], [48, 48]]
def endL : List Int := [-9223372036854775808, -1, 0, 1, 2, 3, 4, 5, 9223372036854775807]
theorem head_map : (headL.map fun s => Value.string ⟨s.toArray⟩).toArray = #[.string ⟨#[]⟩, .string ⟨#[32]⟩, .string ⟨#[45]⟩, .string ⟨#[48]⟩, .string ⟨#[45, 48]⟩, .string ⟨#[49]⟩, .string ⟨#[49, 50]⟩, .string ⟨#[49, 46]⟩, .string ⟨#[49, 46, 53]⟩, .string ⟨#[49, 101]⟩, .string ⟨#[49, 69, 43]⟩, .string ⟨#[49, 101, 45, 55]⟩, .string ⟨#[110]⟩, .string ⟨#[110, 117, 108]⟩, .string ⟨#[110, 117, 108, 108]⟩, .string ⟨#[102]⟩, .string ⟨#[102, 97, 108, 115]⟩, .string ⟨#[116]⟩, .string ⟨#[116, 114]⟩, .string ⟨#[116, 114, 117, 101]⟩, .string ⟨#[34]⟩, .string ⟨#[34, 97]⟩, .string ⟨#[34, 92]⟩, .string ⟨#[34, 92, 117, 48, 48, 101]⟩, .string ⟨#[123]⟩, .string ⟨#[91, 49]⟩, .string ⟨#[44]⟩, .string ⟨#[45, 57, 50, 50, 51, 51, 55, 50, 48, 51, 54, 56, 53, 52, 55, 55, 53, 56, 48, 56]⟩, .string ⟨#[45, 57, 50, 50, 51, 51, 55, 50, 48, 51, 54, 56, 53, 52, 55, 55, 53, 56, 48, 57]⟩, .string ⟨#[57, 50, 50, 51, 51, 55, 50, 48, 51, 54, 56, 53, 52, 55, 55, 53, 56, 48, 55]⟩, .string ⟨#[57, 50, 50, 51, 51, 55, 50, 48, 51, 54, 56, 53, 52, 55, 55, 53, 56, 48, 56]⟩, .string ⟨#[49, 56, 52, 52, 54, 55, 52, 52, 48, 55, 51, 55, 48, 57, 53, 53, 49, 54, 49]⟩, .string ⟨#[48, 48]⟩] := rfl
theorem end_map : (endL.map (Value.int .i64)).toArray = #[.int .i64 (-9223372036854775808), .int .i64 (-1), .int .i64 0, .int .i64 1, .int .i64 2, .int .i64 3, .int .i64 4, .int .i64 5, .int .i64 9223372036854775807] := rfl
theorem head_cell {w : World} {H j : Nat} {T : TypeId} {fr : Nat × Nat} (h : w.heap[H]? = some (.cells (headL.map fun s => Value.string ⟨s.toArray⟩).toArray T fr)) (hj : j < 33) : w.cell? ⟨H, j, none⟩ = some (.string ⟨(headL.getD j []).toArray⟩) := by
  rw [Lib.cell_of_heap h, List.getElem?_toArray, List.getElem?_map, List.getD_eq_getElem?_getD, List.getElem?_eq_getElem (show j < headL.length from hj)]
  rfl
theorem end_cell {w : World} {H j : Nat} {T : TypeId} {fr : Nat × Nat} (h : w.heap[H]? = some (.cells (endL.map (Value.int .i64)).toArray T fr)) (hj : j < 9) : w.cell? ⟨H, j, none⟩ = some (.int .i64 (endL.getD j 0)) := by
  rw [Lib.cell_of_heap h, List.getElem?_toArray, List.getElem?_map, List.getD_eq_getElem?_getD, List.getElem?_eq_getElem (show j < endL.length from hj)]
  rfl
theorem head_len {j : Nat} (hj : j < 33) : (headL.getD j []).length ≤ 20 := by
  have hall : ∀ i : Fin 33, (headL.getD i.val []).length ≤ 20 := by decide
  exact hall ⟨j, hj⟩
theorem repeatL_one (c : UInt8) : ∀ n, Lib.repeatL [c] n = List.replicate n c
  | 0 => rfl
  | n + 1 => by rw [Lib.repeatL, repeatL_one c n]; rfl
theorem all_blank (n : Nat) (hn : n ≤ 1048576) : allM (List.replicate n 32) = ([], 0, 0) := by
  have hl : (List.replicate n (32 : UInt8)).length = n := List.length_replicate
  have hx : nextM (List.replicate n 32) 0 = (⟨0, n, n, 0, 0, []⟩, 0) := by
    have hb : blanksN (List.replicate n (32 : UInt8)) = n := by
      unfold blanksN
      rw [List.takeWhile_replicate]
      have : blankB 32 = true := by decide
      rw [this]
      exact hl
    unfold nextM
    rw [if_neg (by rw [hl]; omega)]
    have e : (0 : Int).toNat = 0 := rfl
    rw [e, List.drop_zero, hb, List.drop_of_length_le (by rw [hl]; exact Nat.le_refl _), Int.zero_add]
    rfl
  unfold allM
  rw [if_neg (by rw [hl]; omega), allN, hx, if_neg (fun h => h rfl), if_pos rfl]
theorem all_long (n : Nat) (hn : 1048576 < n) : allM (List.replicate n 32) = ([], 0, 5) := by
  unfold allM
  rw [if_pos (by rw [List.length_replicate]; exact hn)]
/-- WG, and the list of heads in a block of its own. -/
structure KH (w0 : World) (H : Nat) (w : World) : Prop where
  g : WG w0 w
  z : H < w.heap.size
  o : w.heap[H]? = some (.cells (headL.map fun s => Value.string ⟨s.toArray⟩).toArray 9 (0, 0))
theorem KH.next {w0 w w1 : World} {H : Nat} (h : KH w0 H w) (hb : Below w.heap.size w w1) : KH w0 H w1 := ⟨h.g.next hb, Nat.lt_of_lt_of_le h.z hb.size, (hb.block _ h.z).trans h.o⟩
/-- WG, and the list of offsets in a block of its own. -/
structure KE (w0 : World) (H : Nat) (w : World) : Prop where
  g : WG w0 w
  z : H < w.heap.size
  o : w.heap[H]? = some (.cells (endL.map (Value.int .i64)).toArray 3 (0, 0))
theorem KE.next {w0 w w1 : World} {H : Nat} (h : KE w0 H w) (hb : Below w.heap.size w w1) : KE w0 H w1 := ⟨h.g.next hb, Nat.lt_of_lt_of_le h.z hb.size, (hb.block _ h.z).trans h.o⟩
set_option maxHeartbeats 16000000 in
set_option maxRecDepth 100000 in
theorem known_any (w : World) (hG : Glb w) (hB : Gb w.heap.size) : Calls Tryz.prog 3 #[] w fun e w' => e = .returned (.bool true) ∧ Below w.heap.size w w' := by
  have H0 := Lib.hid (WG.refl hG hB)
  have HNX := Lib.hid (fun (s : List UInt8) (a : Int) (W : World) (h : WG w W) => nexts_any s a W h.g h.gw)
  have HAL := Lib.hid (fun (s : List UInt8) (W : World) (h : WG w W) => alls_any s W h.g h.gw)
  have HPL := Lib.hid (fun (s b : List UInt8) (W : World) (h : WG w W) => place_any s b W h.g h.gw)
  clear hG hB
  unfold strV at HNX HAL HPL
  go_enter Tryz.func3, Tryz.ntmps3
  go_upto_region 2 with fail
  refine wp_named (KH w w.heap.size) ⟨H0.out.next ((Below.refl _ _).alloc (Nat.le_refl _) _), by simp, by rw [head_map]; exact heap_alloc_new _ _⟩ ?_
  clear H0
  generalize hHH : w.heap.size = H
  have HSZ := Lib.hid hHH
  clear hHH
  rintro wn hw
  have H1 := Lib.hid hw
  clear hw
  go_wp2_with fail
  go_loopw [2] (fun i wr => ∃ j : Nat, i = .int .i64 j ∧ j ≤ 256 ∧ KH w H wr) (fun i _ => 256 - (intOf i).toNat)
  case atStart => exact ⟨0, rfl, by omega, H1.out⟩
  case round =>
    clear H1
    obtain ⟨c, rfl, hc, hK⟩ := hrel
    have HK := Lib.hid hK
    clear hK
    by_cases hlt : c < 256
    case pos =>
      have hcz : (c : Int) < 256 := by omega
      have q1 : IntKind.i64.wrap ((c : Int) + 1) = (c : Int) + 1 := IntWalk.i64_in _ (by omega)
      have q2 : IntKind.u8.wrap (c : Int) = (c : Int) := IntWalk.u8_in _ (by omega)
      have hcv : (convert 23 9 (.slice (some ⟨wr.heap.size, 0, none⟩) 1 1)).run Tryz.prog (wr.alloc (.cells #[.int .u8 c] 5 (0, 0))) = .ok (.string ⟨#[(c : Int).toNat.toUInt8]⟩) (wr.alloc (.cells #[.int .u8 c] 5 (0, 0))) := conv_nums _ _ 1 [(c : Int)] _ _ (heap_alloc_new _ _)
      generalize (c : Int).toNat.toUInt8 = cb at hcv
      go_upto_region 6 with fail
      refine wp_named (KH w H) (HK.out.next ((Below.refl _ _).alloc (Nat.le_refl _) _)) ?_
      clear HK hcv q2
      rintro wm hK
      have HK := Lib.hid hK
      clear hK
      have hl33 : (33 : Int) = 33 := rfl
      go_wp2_with fail
      go_loopw [4] (fun i wx => ∃ j : Nat, i = .int .i64 j ∧ j ≤ 33 ∧ KH w H wx) (fun i _ => 33 - (intOf i).toNat)
      case atStart => exact ⟨0, rfl, by omega, HK.out⟩
      case round =>
        clear HK
        obtain ⟨j, rfl, hj, hK⟩ := hrel
        have HK := Lib.hid hK
        clear hK
        by_cases hjl : j < 33
        case pos =>
          have hjz : (j : Int) < 33 := by omega
          have q3 : IntKind.i64.wrap ((j : Int) + 1) = (j : Int) + 1 := IntWalk.i64_in _ (by omega)
          have kc := head_cell HK.out.o hjl
          have HCL := Lib.hid (fun (W : World) (h : KH w H W) => head_cell h.o hjl)
          have hhl := head_len hjl
          generalize headL.getD j [] = hd at *
          have hadd := str_app hd [cb]
          have hadd2 := str_app (hd ++ [cb]) [49, 34]
          have hl1 : hd.length + 1 ≤ 9223372036854775807 := by omega
          have hl2 : (hd ++ [cb]).length + 2 ≤ 9223372036854775807 := by rw [List.length_append]; simp only [List.length_cons, List.length_nil]; omega
          generalize hd ++ [cb] = hb at *
          generalize hb ++ [49, 34] = hb2 at *
          clear hhl hc hlt
          go_wp2_with fail
          refine (HNX.out hb 0 _ HK.out.g).mono ?_
          rintro e w1 ⟨rfl, hb1⟩
          have HK1 := Lib.hid (HK.out.next hb1)
          clear hb1 HK kc
          have kc := HCL.out _ HK1.out
          go_wp2_with fail
          refine (HNX.out hb2 0 _ HK1.out.g).mono ?_
          rintro e w2 ⟨rfl, hb1⟩
          have HK2 := Lib.hid (HK1.out.next hb1)
          clear hb1 HK1 kc
          have kc := HCL.out _ HK2.out
          go_wp2_with fail
          refine (HAL.out hb _ HK2.out.g).mono ?_
          rintro e w3 ⟨rfl, hb1⟩
          have HK3 := Lib.hid (HK2.out.next hb1)
          clear hb1 HK2 kc
          have kc := HCL.out _ HK3.out
          go_wp2_with fail
          refine (HPL.out hb [48] _ HK3.out.g).mono ?_
          rintro e w4 ⟨rfl, hb1⟩
          have HK4 := Lib.hid (HK3.out.next hb1)
          clear hb1 HK3 kc
          go_wp2_with fail
          go_roundw
          case rel => exact ⟨j + 1, by go_num, by omega, HK4.out⟩
          case measure => simp only [intOf]; omega
        have hjz : ¬ (j : Int) < 33 := by omega
        go_wp2_with fail
        go_roundw
        case rel => exact ⟨c + 1, by go_num, by omega, HK.out⟩
        case measure => simp only [intOf]; omega
    have hcz : ¬ (c : Int) < 256 := by omega
    have HW := Lib.hid HK.out.g
    clear HK
    go_upto_region 12 with fail
    refine wp_named (KE w wr.heap.size) ⟨HW.out.next ((Below.refl _ _).alloc (Nat.le_refl _) _), by simp, by rw [end_map]; exact heap_alloc_new _ _⟩ ?_
    clear HW
    generalize wr.heap.size = E at *
    rintro wm hK
    have HK := Lib.hid hK
    clear hK
    go_wp2_with fail
    go_loopw [6] (fun i wx => ∃ j : Nat, i = .int .i64 j ∧ j ≤ 9 ∧ KE w E wx) (fun i _ => 9 - (intOf i).toNat)
    case atStart => exact ⟨0, rfl, by omega, HK.out⟩
    case round =>
      clear HK
      obtain ⟨j, rfl, hj, hK⟩ := hrel
      have HK := Lib.hid hK
      clear hK
      by_cases hjl : j < 9
      case pos =>
        have hjz : (j : Int) < 9 := by omega
        have q3 : IntKind.i64.wrap ((j : Int) + 1) = (j : Int) + 1 := IntWalk.i64_in _ (by omega)
        have kc := end_cell HK.out.o hjl
        have HCL := Lib.hid (fun (W : World) (h : KE w E W) => end_cell h.o hjl)
        generalize endL.getD j 0 = en at *
        go_wp2_with fail
        refine (HNX.out [] en _ HK.out.g).mono ?_
        rintro e w1 ⟨rfl, hb1⟩
        have HK1 := Lib.hid (HK.out.next hb1)
        clear hb1 HK kc
        have kc := HCL.out _ HK1.out
        go_wp2_with fail
        refine (HNX.out [91, 32, 49, 50] en _ HK1.out.g).mono ?_
        rintro e w2 ⟨rfl, hb1⟩
        have HK2 := Lib.hid (HK1.out.next hb1)
        clear hb1 HK1 kc
        go_wp2_with fail
        go_roundw
        case rel => exact ⟨j + 1, by go_num, by omega, HK2.out⟩
        case measure => simp only [intOf]; omega
      have hjz : ¬ (j : Int) < 9 := by omega
      have HW := Lib.hid HK.out.g
      clear HK
      have hr1 := fun W => Tryz.strings_Repeat ⟨#[32]⟩ 1048577 W (by omega) (by decide)
      have hr2 := fun W => Tryz.strings_Repeat ⟨#[32]⟩ 1048576 W (by omega) (by decide)
      rw [show (⟨#[32]⟩ : ByteArray).data.toList = [32] from rfl, repeatL_one] at hr1 hr2
      have ha1 := fun (W : World) (h : WG w W) => all_any (List.replicate 1048577 32) W h.g h.gw (by rw [List.length_replicate]; omega)
      have ha2 := fun (W : World) (h : WG w W) => all_any (List.replicate 1048576 32) W h.g h.gw (by rw [List.length_replicate]; omega)
      rw [all_long 1048577 (by omega)] at ha1
      rw [all_blank 1048576 (by omega)] at ha2
      unfold strV at ha1 ha2
      generalize List.replicate 1048577 (32 : UInt8) = b1 at *
      generalize List.replicate 1048576 (32 : UInt8) = b2 at *
      have HR1 := Lib.hid hr1
      have HR2 := Lib.hid hr2
      have HA1 := Lib.hid ha1
      have HA2 := Lib.hid ha2
      clear hr1 hr2 ha1 ha2 HNX HAL HPL
      go_wp2_with fail
      refine (HR1.out _).mono ?_
      rintro e w1 ⟨rfl, hb1⟩
      have HW1 := Lib.hid (HW.out.next hb1)
      clear hb1 HW HR1
      go_wp2_with fail
      refine (HA1.out _ HW1.out).mono ?_
      rintro e w2 ⟨v, rfl, hT, hb⟩
      obtain ⟨A, c1, rfl⟩ := owns_ptr hT
      have HW2 := Lib.hid (HW1.out.next hb)
      clear hT hb HW1 HA1
      dsimp only [List.length_nil]
      go_wp2_with fail
      refine (HR2.out _).mono ?_
      rintro e w3 ⟨rfl, hb1⟩
      have HW3 := Lib.hid (HW2.out.next hb1)
      clear hb1 HW2 HR2
      go_wp2_with fail
      refine (HA2.out _ HW3.out).mono ?_
      rintro e w4 ⟨v, rfl, hT, hb⟩
      obtain ⟨A2, c2, rfl⟩ := owns_ptr hT
      have HW4 := Lib.hid (HW3.out.next hb)
      clear hT hb HW3 HA2
      dsimp only [List.length_nil]
      go_wp2_with fail
      refine (works_any _ _ HW4.out).mono ?_
      rintro e w5 ⟨rfl, hw5⟩
      have HW5 := Lib.hid hw5
      clear hw5
      go_wp2_with fail
      go_ret
      exact ⟨rfl, HW5.out.b⟩
end Go.Proofs.YtgdhepoffnpgiaaGreatDoor
