/- The walk of accordionlaw11.works: written by wip/gen/jn.py. -/
import Derived.Test.YtccmhhmdenfecaaGreatDoorJm
import Derived.Laws.OwnMore
namespace Go.Proofs.YtccmhhmdenfecaaGreatDoor
set_option linter.unusedVariables false
set_option linter.unusedSimpArgs false
section
open Go.RowKit Go.Shelf
def zT : Value := .slice none 0 0
theorem num_any (n : Int) (w : World) : Calls Tryz.prog 34 #[.int .i64 n] w fun o w' => o = .returned (.agg #[.int .i64 3, .int .i64 n, .int .u64 0, .string ⟨#[]⟩, .slice none 0 0, .slice none 0 0]) ∧ Below w.heap.size w w' := by
  go_enter Tryz.func34, Tryz.ntmps34
  go_wp2_with fail
  go_returns
  exact ⟨rfl, by exact zw⟩
theorem vec_any (A : Option Addr) (m c : Nat) (w : World) : Calls Tryz.prog 33 #[.slice A m c] w fun o w' => o = .returned (.agg #[.int .i64 10, .int .i64 0, .int .u64 0, .string ⟨#[]⟩, .slice none 0 0, .slice A m c]) ∧ Below w.heap.size w w' := by
  go_enter Tryz.func33, Tryz.ntmps33
  go_wp2_with fail
  go_returns
  exact ⟨rfl, by exact zw⟩
theorem rd_alloc (w : World) (xs : List Value) (T : TypeId) (sz n c : Nat) (hx : xs.length = n * sz) (hn : n ≤ 1000) : Rd (w.alloc (.cells xs.toArray T)) (.slice (some ⟨w.heap.size, 0, none⟩) n c) sz n xs := by
  refine ⟨_, _, rfl, by omega, hx, fun h => (by cases h), fun h => ⟨_, _, rfl, by simp, fun j hj => ?_⟩⟩
  have h1 : (w.alloc (.cells xs.toArray T)).heap[w.heap.size]? = some (.cells xs.toArray T (0, 0)) := heap_alloc_new w _
  rw [Nat.zero_add]
  exact (cell_of_row _ _ j _ _ _ h1).trans (by simp)
theorem rd_none (w : World) (sz : Nat) : Rd w (.slice none 0 0) sz 0 [] := ⟨_, _, rfl, by omega, by simp, fun _ => rfl, fun h => absurd h (by omega)⟩
theorem leaf_reads (w : World) (kd n u : Int) (s : List UInt8) : RRep w (.mk kd n u s [] []) [.int .i64 kd, .int .i64 n, .int .u64 u, strV s, .slice none 0 0, .slice none 0 0] := by
  rw [RRep]
  exact ⟨_, _, [], rfl, rd_none _ _, rd_none _ _, by rw [RReps]⟩
theorem tree_reads {w : World} {B0 B1 B2 : Nat} (hK : Rd w (.slice (some ⟨B0, 0, none⟩) 2 2) 1 2 [strV [98], strV [97]])
    (hl : Rd w (.slice (some ⟨B1, 0, none⟩) 2 2) 6 2 [.int .i64 10, .int .i64 0, .int .u64 0, .string ⟨#[]⟩, .slice none 0 0, .slice (some ⟨B2, 0, none⟩) 2 2, .int .i64 6, .int .i64 0, .int .u64 0, .string ⟨#[120]⟩, .slice none 0 0, .slice none 0 0])
    (hV : Rd w (.slice (some ⟨B2, 0, none⟩) 2 2) 6 2 [.int .i64 3, .int .i64 1, .int .u64 0, .string ⟨#[]⟩, .slice none 0 0, .slice none 0 0, .int .i64 3, .int .i64 (-2), .int .u64 0, .string ⟨#[]⟩, .slice none 0 0, .slice none 0 0]) :
    RRep w (.mk 17 0 0 [] [[98], [97]] [.mk 10 0 0 [] [] [.mk 3 1 0 [] [] [], .mk 3 (-2) 0 [] [] []], .mk 6 0 0 [120] [] []]) [.int .i64 17, .int .i64 0, .int .u64 0, .string ⟨#[]⟩, .slice (some ⟨B0, 0, none⟩) 2 2, .slice (some ⟨B1, 0, none⟩) 2 2] := by
  have hv : RRep w (.mk 10 0 0 [] [] [.mk 3 1 0 [] [] [], .mk 3 (-2) 0 [] [] []]) [.int .i64 10, .int .i64 0, .int .u64 0, .string ⟨#[]⟩, .slice none 0 0, .slice (some ⟨B2, 0, none⟩) 2 2] := by
    rw [RRep]
    refine ⟨_, _, _, rfl, rd_none _ _, hV, ?_⟩
    rw [RReps]
    refine ⟨_, _, leaf_reads w 3 1 0 [], ?_, rfl⟩
    rw [RReps]
    exact ⟨_, _, leaf_reads w 3 (-2) 0 [], by rw [RReps], rfl⟩
  rw [RRep]
  refine ⟨_, _, _, rfl, hK, hl, ?_⟩
  rw [RReps]
  refine ⟨_, _, hv, ?_, rfl⟩
  rw [RReps]
  exact ⟨_, _, leaf_reads w 6 0 0 [120], by rw [RReps], rfl⟩
set_option maxHeartbeats 8000000 in
set_option maxRecDepth 100000 in
theorem works_any (w0 w : World) (hW : WP w0 w) : Calls Tryz.prog 15 #[] w fun e w' => e = .returned (.bool true) ∧ WP w0 w' := by
  have hlen : ∀ s : List UInt8, s.length ≤ 200 → s.length ≤ 1073741824 := fun s h => by omega
  have hWa := hW.next (Below.alloc (Below.refl _ w) (Nat.le_refl _) (.cells #[strV [98], strV [97]] 9))
  have hK := rd_alloc w [strV [98], strV [97]] 9 1 2 2 (by decide) (by decide)
  have HWA := Lib.hid hWa
  have HK := Lib.hid hK
  clear hW hWa hK
  go_enter Tryz.func15, Tryz.ntmps15
  go_wp2_with fail
  refine (num_any 1 _).mono ?_
  rintro e w1 ⟨rfl, hb1⟩
  have H1 := Lib.hid (HWA.out.next hb1)
  have HK1 := Lib.hid (HK.out.below hb1)
  clear hb1 HWA HK
  go_wp2_with fail
  refine (num_any (-2) _).mono ?_
  rintro e w2 ⟨rfl, hb2⟩
  have hl := rd_alloc w2 [.int .i64 3, .int .i64 1, .int .u64 0, .string ⟨#[]⟩, .slice none 0 0, .slice none 0 0, .int .i64 3, .int .i64 (-2), .int .u64 0, .string ⟨#[]⟩, .slice none 0 0, .slice none 0 0] 27 6 2 2 (by decide) (by decide)
  have hba := Below.alloc (Below.refl w2.heap.size w2) (Nat.le_refl _) (.cells #[.int .i64 3, .int .i64 1, .int .u64 0, .string ⟨#[]⟩, .slice none 0 0, .slice none 0 0, .int .i64 3, .int .i64 (-2), .int .u64 0, .string ⟨#[]⟩, .slice none 0 0, .slice none 0 0] 27)
  have H2 := Lib.hid ((H1.out.next hb2).next hba)
  have HK2 := Lib.hid ((HK1.out.below hb2).below hba)
  have HL := Lib.hid hl
  clear hb2 H1 HK1 hl hba
  go_wp2_with fail
  refine (vec_any _ _ _ _).mono ?_
  rintro e w3 ⟨rfl, hb3⟩
  obtain ⟨A2, hA2⟩ : ∃ A2, A2 = w2.heap.size := ⟨_, rfl⟩
  have HV := Lib.hid (HL.out.below hb3)
  have H3 := Lib.hid (H2.out.next hb3)
  have HK3 := Lib.hid (HK2.out.below hb3)
  clear hb3 H2 HK2 HL
  rw [← hA2] at HV ⊢
  have hl := rd_alloc w3 [.int .i64 10, .int .i64 0, .int .u64 0, .string ⟨#[]⟩, .slice none 0 0, .slice (some ⟨A2, 0, none⟩) 2 2, .int .i64 6, .int .i64 0, .int .u64 0, .string ⟨#[120]⟩, .slice none 0 0, .slice none 0 0] 27 6 2 2 rfl (by decide)
  have hba := Below.alloc (Below.refl w3.heap.size w3) (Nat.le_refl _) (.cells #[.int .i64 10, .int .i64 0, .int .u64 0, .string ⟨#[]⟩, .slice none 0 0, .slice (some ⟨A2, 0, none⟩) 2 2, .int .i64 6, .int .i64 0, .int .u64 0, .string ⟨#[120]⟩, .slice none 0 0, .slice none 0 0] 27)
  have H4 := Lib.hid (H3.out.next hba)
  have hK4 := HK3.out.below hba
  have hV4 := HV.out.below hba
  clear hba H3 HK3 HV hA2
  have hT : RRep _ _ _ := tree_reads hK4 hl hV4
  clear hK4 hl hV4
  have HT := Lib.hid hT
  clear hT
  go_wp2_with fail
  refine (says_yes [123, 34, 98, 34, 58, 32, 91, 49, 44, 32, 45, 50, 93, 44, 32, 34, 97, 34, 58, 32, 34, 120, 34, 125] _ _ _ _ _ _ _ ps_0 w0 _ (hlen _ (by decide)) HT.out H4.out).mono ?_
  rintro e w5 ⟨rfl, h5⟩
  have H5 := Lib.hid h5
  clear h5 H4
  go_wp2_with fail
  refine (says_yes [49, 56, 52, 52, 54, 55, 52, 52, 48, 55, 51, 55, 48, 57, 53, 53, 49, 54, 49, 53] _ _ _ _ _ _ _ ps_1 w0 _ (hlen _ (by decide)) (leaf_reads _ 4 0 18446744073709551615 []) H5.out).mono ?_
  rintro e w6 ⟨rfl, h6⟩
  have H6 := Lib.hid h6
  clear h6 H5
  go_wp2_with fail
  refine (says_yes [110, 117, 108, 108] _ _ _ _ _ _ _ ps_2 w0 _ (hlen _ (by decide)) (leaf_reads _ 1 0 0 []) H6.out).mono ?_
  rintro e w7 ⟨rfl, h7⟩
  have H7 := Lib.hid h7
  clear h7 H6
  go_wp2_with fail
  refine (vec_any _ _ _ _).mono ?_
  rintro e w8 ⟨rfl, h8⟩
  have H8 := Lib.hid (H7.out.next h8)
  clear h8 H7
  go_wp2_with fail
  refine (says_yes [91, 93] _ _ _ _ _ _ _ ps_3 w0 _ (hlen _ (by decide)) (leaf_reads _ 10 0 0 []) H8.out).mono ?_
  rintro e w9 ⟨rfl, h9⟩
  have H9 := Lib.hid h9
  clear h9 H8
  go_wp2_with fail
  refine (says_yes [123, 125] _ _ _ _ _ _ _ ps_4 w0 _ (hlen _ (by decide)) (leaf_reads _ 17 0 0 []) H9.out).mono ?_
  rintro e w10 ⟨rfl, h10⟩
  have H10 := Lib.hid h10
  clear h10 H9
  go_wp2_with fail
  refine (fails_yes [91, 49, 44, 93] 3 100 pf_0 w0 _ (hlen _ (by decide)) H10.out).mono ?_
  rintro e w11 ⟨rfl, h11⟩
  have H11 := Lib.hid h11
  clear h11 H10
  go_wp2_with fail
  refine (fails_yes [91, 49, 32, 50, 93] 3 100 pf_1 w0 _ (hlen _ (by decide)) H11.out).mono ?_
  rintro e w12 ⟨rfl, h12⟩
  have H12 := Lib.hid h12
  clear h12 H11
  go_wp2_with fail
  refine (fails_yes [123, 34, 97, 34, 32, 49, 125] 5 100 pf_2 w0 _ (hlen _ (by decide)) H12.out).mono ?_
  rintro e w13 ⟨rfl, h13⟩
  have H13 := Lib.hid h13
  clear h13 H12
  go_wp2_with fail
  refine (fails_yes [123, 34, 97, 34, 58, 49, 44, 125] 7 100 pf_3 w0 _ (hlen _ (by decide)) H13.out).mono ?_
  rintro e w14 ⟨rfl, h14⟩
  have H14 := Lib.hid h14
  clear h14 H13
  go_wp2_with fail
  refine (fails_yes [] 0 100 pf_4 w0 _ (hlen _ (by decide)) H14.out).mono ?_
  rintro e w15 ⟨rfl, h15⟩
  have H15 := Lib.hid h15
  clear h15 H14
  go_wp2_with fail
  refine (fails_yes [49, 32, 50] 2 100 pf_5 w0 _ (hlen _ (by decide)) H15.out).mono ?_
  rintro e w16 ⟨rfl, h16⟩
  have H16 := Lib.hid h16
  clear h16 H15
  go_wp2_with fail
  refine (fails_yes [123, 49, 58, 50, 125] 1 100 pf_6 w0 _ (hlen _ (by decide)) H16.out).mono ?_
  rintro e w17 ⟨rfl, h17⟩
  have H17 := Lib.hid h17
  clear h17 H16
  go_wp2_with fail
  refine (fails_yes [123, 34, 97, 34, 58, 49, 44, 34, 97, 34, 58, 50, 125] 7 71 pf_7 w0 _ (hlen _ (by decide)) H17.out).mono ?_
  rintro e w18 ⟨rfl, h18⟩
  have H18 := Lib.hid h18
  clear h18 H17
  go_wp2_with fail
  refine (fails_yes [123, 34, 92, 117, 48, 48, 48, 48, 34, 58, 49, 125] 1 70 pf_8 w0 _ (hlen _ (by decide)) H18.out).mono ?_
  rintro e w19 ⟨rfl, h19⟩
  have H19 := Lib.hid h19
  clear h19 H18
  go_wp2_with fail
  refine (fails_yes [91, 49, 46, 53, 93] 1 101 pf_9 w0 _ (hlen _ (by decide)) H19.out).mono ?_
  rintro e w20 ⟨rfl, h20⟩
  have H20 := Lib.hid h20
  clear h20 H19
  go_wp2_with fail
  refine (fails_yes [91, 34, 92, 120, 34, 93] 3 41 pf_10 w0 _ (hlen _ (by decide)) H20.out).mono ?_
  rintro e w21 ⟨rfl, h21⟩
  have H21 := Lib.hid h21
  clear h21 H20
  go_wp2_with fail
  obtain ⟨A64, hA⟩ : ∃ A : ByteArray, A = ⟨(List.replicate 64 91).toArray⟩ := ⟨_, rfl⟩
  obtain ⟨B64, hB⟩ : ∃ A : ByteArray, A = ⟨(List.replicate 64 93).toArray⟩ := ⟨_, rfl⟩
  have hadd : A64 ++ B64 = ⟨(List.replicate 64 (91 : UInt8) ++ List.replicate 64 (93 : UInt8)).toArray⟩ := by rw [hA, hB]; kernel_rfl
  have zA : A64.size = 64 := by rw [hA]; kernel_rfl
  have zB : B64.size = 64 := by rw [hB]; kernel_rfl
  have HADD := Lib.hid hadd
  have HA := Lib.hid hA
  have HB := Lib.hid hB
  clear hA hB hadd
  refine (Tryz.strings_Repeat_main ⟨#[91]⟩ 64 _ (by decide) (by decide) (by decide) (by decide)).mono ?_
  rintro e w22 ⟨rfl, h22⟩
  rw [show (⟨(Lib.repeatL (⟨#[91]⟩ : ByteArray).data.toList 64).toArray⟩ : ByteArray) = A64 from (HA.out.trans (by kernel_rfl)).symm]
  have H22 := Lib.hid (H21.out.next h22)
  clear h22 H21
  go_wp2_with fail
  refine (Tryz.strings_Repeat_main ⟨#[93]⟩ 64 _ (by decide) (by decide) (by decide) (by decide)).mono ?_
  rintro e w23 ⟨rfl, h23⟩
  rw [show (⟨(Lib.repeatL (⟨#[93]⟩ : ByteArray).data.toList 64).toArray⟩ : ByteArray) = B64 from (HB.out.trans (by kernel_rfl)).symm]
  have H23 := Lib.hid (H22.out.next h23)
  clear h23 H22
  go_wp2_with fail
  rw [HADD.out]
  refine (parse_is (List.replicate 64 91 ++ List.replicate 64 93) (nest 63) 0 0 ps_64 w0 _ (hlen _ (by decide +kernel)) H23.out).mono ?_
  rintro e w24 ⟨x0, x1, x2, x3, x4, x5, rfl, ⟨bs, hN, hnd, hge⟩, h24⟩
  obtain ⟨kd1, nn1, uu1, s1, B1, n1, d1, B2, n2, d2, rfl, rfl, rfl, rfl, rfl, rfl⟩ := hN.form2
  have hba := Below.alloc (Below.refl w24.heap.size w24) (Nat.le_refl _) (.cells #[.int .i64 kd1, .int .i64 nn1, .int .u64 uu1, .string s1, .slice B1 n1 d1, .slice B2 n2 d2] 27)
  have H24 := Lib.hid ((H23.out.next h24).next hba)
  have HN := Lib.hid (hN.below hba)
  clear h24 hN H23 HADD HA HB hnd hge hba
  go_wp2_with fail
  refine (deep_any (nest 63) _ _ _ _ _ _ bs _ HN.out nest_size (by rw [nest_deep]; decide)).mono ?_
  rintro e w25 ⟨rfl, h25⟩
  rw [nest_deep]
  have H25 := Lib.hid (H24.out.next h25)
  clear h25 H24 HN
  obtain ⟨A65, hA⟩ : ∃ A : ByteArray, A = ⟨(List.replicate 65 91).toArray⟩ := ⟨_, rfl⟩
  obtain ⟨B65, hB⟩ : ∃ A : ByteArray, A = ⟨(List.replicate 65 93).toArray⟩ := ⟨_, rfl⟩
  have hadd : A65 ++ B65 = ⟨(List.replicate 65 (91 : UInt8) ++ List.replicate 65 (93 : UInt8)).toArray⟩ := by rw [hA, hB]; kernel_rfl
  have yA : A65.size = 65 := by rw [hA]; kernel_rfl
  have yB : B65.size = 65 := by rw [hB]; kernel_rfl
  have HADD := Lib.hid hadd
  have HA := Lib.hid hA
  have HB := Lib.hid hB
  clear hA hB hadd
  go_wp2_with fail
  refine (Tryz.strings_Repeat_main ⟨#[91]⟩ 65 _ (by decide) (by decide) (by decide) (by decide)).mono ?_
  rintro e w26 ⟨rfl, h26⟩
  rw [show (⟨(Lib.repeatL (⟨#[91]⟩ : ByteArray).data.toList 65).toArray⟩ : ByteArray) = A65 from (HA.out.trans (by kernel_rfl)).symm]
  have H26 := Lib.hid (H25.out.next h26)
  clear h26 H25
  go_wp2_with fail
  refine (Tryz.strings_Repeat_main ⟨#[93]⟩ 65 _ (by decide) (by decide) (by decide) (by decide)).mono ?_
  rintro e w27 ⟨rfl, h27⟩
  rw [show (⟨(Lib.repeatL (⟨#[93]⟩ : ByteArray).data.toList 65).toArray⟩ : ByteArray) = B65 from (HB.out.trans (by kernel_rfl)).symm]
  have H27 := Lib.hid (H26.out.next h27)
  clear h27 H26
  go_wp2_with fail
  rw [HADD.out]
  refine (fails_yes (List.replicate 65 91 ++ List.replicate 65 93) 64 61 pf_65 w0 _ (hlen _ (by decide +kernel)) H27.out).mono ?_
  rintro e w28 ⟨rfl, h28⟩
  have H28 := Lib.hid h28
  clear h28 H27
  go_wp2_with fail
  go_returns
  exact ⟨rfl, H28.out⟩
end
end Go.Proofs.YtccmhhmdenfecaaGreatDoor
