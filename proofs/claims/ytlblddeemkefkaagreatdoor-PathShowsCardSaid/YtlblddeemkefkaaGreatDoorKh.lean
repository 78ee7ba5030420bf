/- The closures of path.Parse: an index. -/
import Derived.Test.YtlblddeemkefkaaGreatDoorKg
import Derived.Test.YtlblddeemkefkaaGreatDoorEc
import Derived.Lib.SmallJoins
namespace Go.Proofs.YtlblddeemkefkaaGreatDoor
set_option linter.unusedVariables false
set_option linter.unusedSimpArgs false
open Go.RowKit Go.Shelf
theorem at6 {w : World} {Y : Nat} {v0 v1 v2 v3 v4 v5 : Value} {ty : TypeId} (h : w.heap[Y]? = some (.cells #[v0, v1, v2, v3, v4, v5] ty (0, 0))) :
    w.cell? ⟨Y, 0, none⟩ = some v0 ∧ w.cell? ⟨Y, 1, none⟩ = some v1 ∧ w.cell? ⟨Y, 2, none⟩ = some v2 ∧ w.cell? ⟨Y, 3, none⟩ = some v3 ∧ w.cell? ⟨Y, 4, none⟩ = some v4 ∧ w.cell? ⟨Y, 5, none⟩ = some v5 := by
  refine ⟨?_, ?_, ?_, ?_, ?_, ?_⟩
  all_goals (rw [Lib.cell_of_heap h]; rfl)
theorem patoi_any (l : List UInt8) (i k : Nat) (hik : i < k) (hk : k ≤ l.length) (h9 : k - i ≤ 9) (h : ∀ j, i ≤ j → j < k → digB (l.getD j 0) = true) (w : World) :
    Calls Tryz.prog 50 #[.string ⟨((l.drop i).take (k - i)).toArray⟩] w fun e w' => e = .returned (.tuple #[.int .i64 (valU ((l.drop i).take (k - i)) : Int), .nilIface]) ∧ Below w.heap.size w w' := by
  have hlen : ((l.drop i).take (k - i)).length = k - i := by
    rw [List.length_take, List.length_drop]
    omega
  refine (Tryz.strconv_Atoi ⟨((l.drop i).take (k - i)).toArray⟩ (valU ((l.drop i).take (k - i)) : Int) (by simp only [ByteArray.size, List.size_toArray]; omega) (atoi_digs (fun e => by have e2 : (l.drop i).take (k - i) = [] := e; rw [e2] at hlen; simp at hlen; omega) ?_) w).mono ?_
  · intro c hc
    have hc2 : c ∈ (l.drop i).take (k - i) := hc
    obtain ⟨j, hj, rfl⟩ := List.getElem_of_mem hc2
    rw [List.getElem_take, List.getElem_drop]
    have hj2 : j < k - i := by rw [← hlen]; exact hj
    have := h (i + j) (by omega) (by omega)
    rwa [List.getD_eq_getElem?_getD, List.getElem?_eq_getElem (by omega)] at this
  · rintro e w' ⟨rfl, t, rfl⟩
    exact ⟨rfl, Joins.below_bytesWorld _ w _ _ (Nat.le_refl _)⟩
set_option maxHeartbeats 16000000 in
set_option maxRecDepth 100000 in
theorem place_any (l : List UInt8) (i : Nat) (P : Nat) (w : World) (hP : P < w.heap.size) (h0 : w.cell? ⟨P, 0, none⟩ = some (strV l)) (hl : l.length ≤ 1073741824) (hi : i < l.length) (hd : digB (l.getD i 0) = true) :
    Calls Tryz.prog 48 #[.int .i64 i, .pointer (some ⟨P, 0, none⟩)] w fun e w' => e = .returned (saidV (placeM l i)) ∧ Below w.heap.size w w' := by
  have hs : (⟨l.toArray⟩ : ByteArray).size = l.length := by simp [ByteArray.size]
  have HX := Lib.hid (str_idx l)
  have HD := Lib.hid (fun (c : UInt8) (V : World) => pdigit_any c V)
  have HDI := Lib.hid hd
  obtain ⟨n, hn⟩ : ∃ n, n = l.length := ⟨_, rfl⟩
  have HN := Lib.hid hn
  rw [← hn] at hl hi hs
  clear hd hn
  unfold strV at h0
  go_enter Tryz.func48, Tryz.ntmps48
  go_upto_region 1 with fail
  refine wp_named (fun wn => Below w.heap.size w wn ∧ wn.heap[w.heap.size]? = some (.cells #[.string ⟨#[]⟩, .int .i64 0, .bool false, .int .i64 0, .int .i64 0, .int .i64 0] 76 (0, 0)) ∧ wn.cell? ⟨P, 0, none⟩ = some (.string ⟨l.toArray⟩)) ⟨(Below.refl _ w).alloc (Nat.le_refl _) _, heap_alloc_new _ _, ((Below.refl w.heap.size w).alloc (Nat.le_refl _) _).cell hP |>.trans h0⟩ ?_
  rintro wn ⟨hbn, hrn, h0n⟩
  have HB := Lib.hid hbn
  have HRN := Lib.hid hrn
  have HZ := Lib.hid (row_lt hrn)
  clear hbn hrn h0
  go_wp2_with fail
  go_loopw [4] (fun v wr => ∃ k : Nat, i ≤ k ∧ k ≤ n ∧ v = .int .i64 k ∧ Hid (∀ j, i ≤ j → j < k → digB (l.getD j 0) = true) ∧ wr = wn) (fun v _ => n - (intOf v).toNat)
  case atStart => exact ⟨i, Nat.le_refl _, by omega, rfl, Lib.hid (fun j a b => by omega), rfl⟩
  case round =>
    rename_i wr
    obtain ⟨k, hik, hkn, rfl, hG, rfl⟩ := hrel
    by_cases h1 : k < n
    · have h1' : (k : Int) < (n : Int) := by omega
      have hx := HX.out k (by have := HN.out; omega)
      cases hdk : digB (l.getD k 0)
      case true =>
        have HDK := Lib.hid hdk
        have HC := Lib.hid (HD.out (l.getD k 0))
        rw [hdk] at HC
        generalize hc : l.getD k 0 = c at *
        have HCC := Lib.hid hc
        clear hc hdk
        have q1 : IntKind.i64.wrap ((k : Int) + 1) = (k : Int) + 1 := IntWalk.i64_in _ (by omega)
        go_wp2_with (go_at_call 49; refine (HC.out _).mono ?_; rintro e w2 ⟨rfl, rfl⟩)
        go_roundw
        case rel => exact ⟨k + 1, by omega, by omega, rfl, Lib.hid (fun j a b => by
          by_cases e : j = k
          · rw [e, HCC.out]; exact HDK.out
          · exact hG.out j a (by omega)), trivial⟩
        case measure => simp only [intOf]; omega
      case false =>
        have HDE := Lib.hid (digs_eq l i k hik (by have := HN.out; omega) hG.out (fun _ => hdk))
        have HDK := Lib.hid hdk
        have HC := Lib.hid (HD.out (l.getD k 0))
        rw [hdk] at HC
        clear hdk
        have hx2 := HX.out i (by have := HN.out; omega)
        have hki : i < k := by
          rcases Nat.lt_or_ge i k with e | e
          · exact e
          · exfalso
            have e2 : k = i := by omega
            exact absurd HDI.out (by rw [← e2, HDK.out]; decide)
        generalize l.getD k 0 = c at *
        have q2 : IntKind.i64.wrap ((i : Int) + 1) = (i : Int) + 1 := IntWalk.i64_in _ (by omega)
        have q3 : IntKind.i64.wrap ((k : Int) - i) = (k : Int) - i := IntWalk.i64_in _ (by omega)
        have hrK := HRN.out
        obtain ⟨z0, z1, z2, z3, z4, z5⟩ := at6 hrK
        have g0 := frozen_of_row _ _ 0 _ _ hrK
        have g1 := frozen_of_row _ _ 1 _ _ hrK
        have g2 := frozen_of_row _ _ 2 _ _ hrK
        have g3 := frozen_of_row _ _ 3 _ _ hrK
        have g4 := frozen_of_row _ _ 4 _ _ hrK
        have g5 := frozen_of_row _ _ 5 _ _ hrK
        have gz := HZ.out
        have hbb := HB.out
        clear hrK
        by_cases hc0 : l.getD i 0 = 48
        · have m0 : ((l.getD i 0).toNat : Int) = 48 := by rw [hc0]; rfl
          rw [m0] at hx2
          clear m0
          by_cases hd1 : i + 1 < k
          · have hd1' : (i : Int) + 1 < k := by omega
            go_wp2_with (go_at_call 49; refine (HC.out _).mono ?_; rintro e w2 ⟨rfl, rfl⟩)
            (refine bodyPost_ret (v := .agg #[.string ⟨#[]⟩, .int .i64 0, .bool false, .int .i64 0, .int .i64 i, .int .i64 4]) (by simp [results, Tryz.results48, go_sem, *]) rfl ?_)
            exact ⟨by rw [show placeM l i = (([], 0, false), 0, (i : Int), 4) from if_pos (by rw [HDE.out]; exact (.inl ⟨hc0, by omega⟩))]; rfl, below_six hbb (by omega) _ _ _ _ _ _⟩
          · have hd1' : ¬ (i : Int) + 1 < k := by omega
            have hd2 : ¬ (9 : Int) < (k : Int) - i := by omega
            have HAT := Lib.hid (fun (V : World) => patoi_any l i k (by omega) (by have := HN.out; omega) (by omega) hG.out V)
            have hsl := sub_run l i k (by omega) (by have := HN.out; omega)
            have HPL := Lib.hid (show placeM l i = (([], (valU ((l.drop i).take (k - i)) : Int), false), (k : Int), 0, 0) by
              unfold placeM
              rw [if_neg (by rw [HDE.out]; exact (by rintro (⟨-, a⟩ | a) <;> omega)), HDE.out, show i + (k - i) = k by omega])
            generalize (l.drop i).take (k - i) = x at *
            generalize (valU x : Int) = vx at *
            go_wp2_with (go_at_call 49; refine (HC.out _).mono ?_; rintro e w2 ⟨rfl, rfl⟩)
            refine (HAT.out _).mono ?_
            rintro e wa ⟨rfl, hba⟩
            have hra := (hba.block _ HZ.out).trans HRN.out
            have hza := hba.size
            have HBA := Lib.hid (HB.out.trans (hba.mono HB.out.size))
            obtain ⟨z0, z1, z2, z3, z4, z5⟩ := at6 hra
            have g0 := frozen_of_row _ _ 0 _ _ hra
            have g1 := frozen_of_row _ _ 1 _ _ hra
            have g2 := frozen_of_row _ _ 2 _ _ hra
            have g3 := frozen_of_row _ _ 3 _ _ hra
            have g4 := frozen_of_row _ _ 4 _ _ hra
            have g5 := frozen_of_row _ _ 5 _ _ hra
            have gz : w.heap.size < wa.heap.size := row_lt hra
            clear hra hba
            go_wp2_with fail
            (refine bodyPost_ret (v := .agg #[.string ⟨#[]⟩, .int .i64 vx, .bool false, .int .i64 k, .int .i64 0, .int .i64 0]) (by simp [results, Tryz.results48, go_sem, *]) rfl ?_)
            exact ⟨by rw [HPL.out]; rfl, below_six HBA.out (by omega) _ _ _ _ _ _⟩
        · have m0 : ¬ ((l.getD i 0).toNat : Int) = 48 := fun e => hc0 (UInt8.toNat.inj (by show (l.getD i 0).toNat = 48; omega))
          have HC0 := Lib.hid hc0
          clear hc0
          generalize hmm : (l.getD i 0).toNat = mm at *
          clear hmm
          by_cases hd1 : 9 < k - i
          · have hd2 : (9 : Int) < (k : Int) - i := by omega
            go_wp2_with (go_at_call 49; refine (HC.out _).mono ?_; rintro e w2 ⟨rfl, rfl⟩)
            (refine bodyPost_ret (v := .agg #[.string ⟨#[]⟩, .int .i64 0, .bool false, .int .i64 0, .int .i64 i, .int .i64 4]) (by simp [results, Tryz.results48, go_sem, *]) rfl ?_)
            exact ⟨by rw [show placeM l i = (([], 0, false), 0, (i : Int), 4) from if_pos (by rw [HDE.out]; exact (.inr hd1))]; rfl, below_six hbb (by omega) _ _ _ _ _ _⟩
          · have hd2 : ¬ (9 : Int) < (k : Int) - i := by omega
            have HAT := Lib.hid (fun (V : World) => patoi_any l i k (by omega) (by have := HN.out; omega) (by omega) hG.out V)
            have hsl := sub_run l i k (by omega) (by have := HN.out; omega)
            have HPL := Lib.hid (show placeM l i = (([], (valU ((l.drop i).take (k - i)) : Int), false), (k : Int), 0, 0) by
              unfold placeM
              rw [if_neg (by rw [HDE.out]; exact (by rintro (⟨a, -⟩ | a); exact HC0.out a; omega)), HDE.out, show i + (k - i) = k by omega])
            generalize (l.drop i).take (k - i) = x at *
            generalize (valU x : Int) = vx at *
            go_wp2_with (go_at_call 49; refine (HC.out _).mono ?_; rintro e w2 ⟨rfl, rfl⟩)
            refine (HAT.out _).mono ?_
            rintro e wa ⟨rfl, hba⟩
            have hra := (hba.block _ HZ.out).trans HRN.out
            have hza := hba.size
            have HBA := Lib.hid (HB.out.trans (hba.mono HB.out.size))
            obtain ⟨z0, z1, z2, z3, z4, z5⟩ := at6 hra
            have g0 := frozen_of_row _ _ 0 _ _ hra
            have g1 := frozen_of_row _ _ 1 _ _ hra
            have g2 := frozen_of_row _ _ 2 _ _ hra
            have g3 := frozen_of_row _ _ 3 _ _ hra
            have g4 := frozen_of_row _ _ 4 _ _ hra
            have g5 := frozen_of_row _ _ 5 _ _ hra
            have gz : w.heap.size < wa.heap.size := row_lt hra
            clear hra hba
            go_wp2_with fail
            (refine bodyPost_ret (v := .agg #[.string ⟨#[]⟩, .int .i64 vx, .bool false, .int .i64 k, .int .i64 0, .int .i64 0]) (by simp [results, Tryz.results48, go_sem, *]) rfl ?_)
            exact ⟨by rw [HPL.out]; rfl, below_six HBA.out (by omega) _ _ _ _ _ _⟩
    · have hkn2 : k = n := by omega
      have h1' : ¬ (k : Int) < (n : Int) := by omega
      have HDE := Lib.hid (digs_eq l i k hik (by have := HN.out; omega) hG.out (fun e => absurd e (by have := HN.out; omega)))
      have hx2 := HX.out i (by have := HN.out; omega)
      have hki : i < k := by
        rcases Nat.lt_or_ge i k with e | e
        · exact e
        · exfalso
          have e2 : k = i := by omega
          omega
      clear hkn2 h1
      have q2 : IntKind.i64.wrap ((i : Int) + 1) = (i : Int) + 1 := IntWalk.i64_in _ (by omega)
      have q3 : IntKind.i64.wrap ((k : Int) - i) = (k : Int) - i := IntWalk.i64_in _ (by omega)
      have hrK := HRN.out
      obtain ⟨z0, z1, z2, z3, z4, z5⟩ := at6 hrK
      have g0 := frozen_of_row _ _ 0 _ _ hrK
      have g1 := frozen_of_row _ _ 1 _ _ hrK
      have g2 := frozen_of_row _ _ 2 _ _ hrK
      have g3 := frozen_of_row _ _ 3 _ _ hrK
      have g4 := frozen_of_row _ _ 4 _ _ hrK
      have g5 := frozen_of_row _ _ 5 _ _ hrK
      have gz := HZ.out
      have hbb := HB.out
      clear hrK
      by_cases hc0 : l.getD i 0 = 48
      · have m0 : ((l.getD i 0).toNat : Int) = 48 := by rw [hc0]; rfl
        rw [m0] at hx2
        clear m0
        by_cases hd1 : i + 1 < k
        · have hd1' : (i : Int) + 1 < k := by omega
          go_wp2_with fail
          (refine bodyPost_ret (v := .agg #[.string ⟨#[]⟩, .int .i64 0, .bool false, .int .i64 0, .int .i64 i, .int .i64 4]) (by simp [results, Tryz.results48, go_sem, *]) rfl ?_)
          exact ⟨by rw [show placeM l i = (([], 0, false), 0, (i : Int), 4) from if_pos (by rw [HDE.out]; exact (.inl ⟨hc0, by omega⟩))]; rfl, below_six hbb (by omega) _ _ _ _ _ _⟩
        · have hd1' : ¬ (i : Int) + 1 < k := by omega
          have hd2 : ¬ (9 : Int) < (k : Int) - i := by omega
          have HAT := Lib.hid (fun (V : World) => patoi_any l i k (by omega) (by have := HN.out; omega) (by omega) hG.out V)
          have hsl := sub_run l i k (by omega) (by have := HN.out; omega)
          have HPL := Lib.hid (show placeM l i = (([], (valU ((l.drop i).take (k - i)) : Int), false), (k : Int), 0, 0) by
            unfold placeM
            rw [if_neg (by rw [HDE.out]; exact (by rintro (⟨-, a⟩ | a) <;> omega)), HDE.out, show i + (k - i) = k by omega])
          generalize (l.drop i).take (k - i) = x at *
          generalize (valU x : Int) = vx at *
          go_wp2_with fail
          refine (HAT.out _).mono ?_
          rintro e wa ⟨rfl, hba⟩
          have hra := (hba.block _ HZ.out).trans HRN.out
          have hza := hba.size
          have HBA := Lib.hid (HB.out.trans (hba.mono HB.out.size))
          obtain ⟨z0, z1, z2, z3, z4, z5⟩ := at6 hra
          have g0 := frozen_of_row _ _ 0 _ _ hra
          have g1 := frozen_of_row _ _ 1 _ _ hra
          have g2 := frozen_of_row _ _ 2 _ _ hra
          have g3 := frozen_of_row _ _ 3 _ _ hra
          have g4 := frozen_of_row _ _ 4 _ _ hra
          have g5 := frozen_of_row _ _ 5 _ _ hra
          have gz : w.heap.size < wa.heap.size := row_lt hra
          clear hra hba
          go_wp2_with fail
          (refine bodyPost_ret (v := .agg #[.string ⟨#[]⟩, .int .i64 vx, .bool false, .int .i64 k, .int .i64 0, .int .i64 0]) (by simp [results, Tryz.results48, go_sem, *]) rfl ?_)
          exact ⟨by rw [HPL.out]; rfl, below_six HBA.out (by omega) _ _ _ _ _ _⟩
      · have m0 : ¬ ((l.getD i 0).toNat : Int) = 48 := fun e => hc0 (UInt8.toNat.inj (by show (l.getD i 0).toNat = 48; omega))
        have HC0 := Lib.hid hc0
        clear hc0
        generalize hmm : (l.getD i 0).toNat = mm at *
        clear hmm
        by_cases hd1 : 9 < k - i
        · have hd2 : (9 : Int) < (k : Int) - i := by omega
          go_wp2_with fail
          (refine bodyPost_ret (v := .agg #[.string ⟨#[]⟩, .int .i64 0, .bool false, .int .i64 0, .int .i64 i, .int .i64 4]) (by simp [results, Tryz.results48, go_sem, *]) rfl ?_)
          exact ⟨by rw [show placeM l i = (([], 0, false), 0, (i : Int), 4) from if_pos (by rw [HDE.out]; exact (.inr hd1))]; rfl, below_six hbb (by omega) _ _ _ _ _ _⟩
        · have hd2 : ¬ (9 : Int) < (k : Int) - i := by omega
          have HAT := Lib.hid (fun (V : World) => patoi_any l i k (by omega) (by have := HN.out; omega) (by omega) hG.out V)
          have hsl := sub_run l i k (by omega) (by have := HN.out; omega)
          have HPL := Lib.hid (show placeM l i = (([], (valU ((l.drop i).take (k - i)) : Int), false), (k : Int), 0, 0) by
            unfold placeM
            rw [if_neg (by rw [HDE.out]; exact (by rintro (⟨a, -⟩ | a); exact HC0.out a; omega)), HDE.out, show i + (k - i) = k by omega])
          generalize (l.drop i).take (k - i) = x at *
          generalize (valU x : Int) = vx at *
          go_wp2_with fail
          refine (HAT.out _).mono ?_
          rintro e wa ⟨rfl, hba⟩
          have hra := (hba.block _ HZ.out).trans HRN.out
          have hza := hba.size
          have HBA := Lib.hid (HB.out.trans (hba.mono HB.out.size))
          obtain ⟨z0, z1, z2, z3, z4, z5⟩ := at6 hra
          have g0 := frozen_of_row _ _ 0 _ _ hra
          have g1 := frozen_of_row _ _ 1 _ _ hra
          have g2 := frozen_of_row _ _ 2 _ _ hra
          have g3 := frozen_of_row _ _ 3 _ _ hra
          have g4 := frozen_of_row _ _ 4 _ _ hra
          have g5 := frozen_of_row _ _ 5 _ _ hra
          have gz : w.heap.size < wa.heap.size := row_lt hra
          clear hra hba
          go_wp2_with fail
          (refine bodyPost_ret (v := .agg #[.string ⟨#[]⟩, .int .i64 vx, .bool false, .int .i64 k, .int .i64 0, .int .i64 0]) (by simp [results, Tryz.results48, go_sem, *]) rfl ?_)
          exact ⟨by rw [HPL.out]; rfl, below_six HBA.out (by omega) _ _ _ _ _ _⟩
end Go.Proofs.YtlblddeemkefkaaGreatDoor
