/- The walk of the reference's place: written by wip/gen/rp.py. -/
import Derived.Test.YtlblddeemkefkaaGreatDoorRe
import Derived.Test.YtlblddeemkefkaaGreatDoorYa
namespace Go.Proofs.YtlblddeemkefkaaGreatDoor
set_option linter.unusedVariables false
set_option linter.unusedSimpArgs false
open Go.RowKit Go.Shelf
theorem below_three {B : Nat} {a w : World} (h : Below B a w) {Y : Nat} (hY : B ≤ Y) (v0 v1 v2 : Value) : Below B a (((w.setCell ⟨Y, 0, none⟩ v0).setCell ⟨Y, 1, none⟩ v1).setCell ⟨Y, 2, none⟩ v2) :=
  ((h.setCell (p := ⟨Y, 0, none⟩) hY _).setCell (p := ⟨Y, 1, none⟩) hY _).setCell (p := ⟨Y, 2, none⟩) hY _
theorem take_snoc (l : List UInt8) (i j : Nat) (h : i + j < l.length) : (l.drop i).take (j + 1) = (l.drop i).take j ++ [l.getD (i + j) 0] := by
  rw [List.take_succ_eq_append_getElem (by rw [List.length_drop]; omega), List.getElem_drop, List.getD_eq_getElem?_getD, List.getElem?_eq_getElem h]
  rfl
theorem val_lt (l : List UInt8) (i k : Nat) (hk : k ≤ l.length) (hd : ∀ j, i ≤ j → j < k → digB (l.getD j 0) = true) : ∀ j, i + j ≤ k → valU ((l.drop i).take j) + 1 ≤ 10 ^ j
  | 0, _ => by simp [valU]
  | j + 1, h => by
    have ih := val_lt l i k hk hd j (by omega)
    have hd1 := hd (i + j) (by omega) (by omega)
    unfold digB at hd1
    simp only [Bool.and_eq_true, decide_eq_true_eq] at hd1
    rw [take_snoc l i j (by omega), valU_snoc, Nat.pow_succ]
    omega
theorem at3 {w : World} {Y : Nat} {v0 v1 v2 : Value} {ty : TypeId} (h : w.heap[Y]? = some (.cells #[v0, v1, v2] ty (0, 0))) :
    w.cell? ⟨Y, 0, none⟩ = some v0 ∧ w.cell? ⟨Y, 1, none⟩ = some v1 ∧ w.cell? ⟨Y, 2, none⟩ = some v2 := by
  refine ⟨?_, ?_, ?_⟩
  all_goals (rw [Lib.cell_of_heap h]; rfl)
/-- What place hands back. -/
def placeV (r : Said) : Value := .tuple #[.agg #[strV r.1.1, .int .i64 r.1.2.1, .bool r.1.2.2], .int .i64 r.2.1, .bool (r.2.2.2 == 0)]
set_option maxHeartbeats 16000000 in
set_option maxRecDepth 100000 in
theorem rplace_any (l : List UInt8) (i : Nat) (w : World) (hl : l.length ≤ 1073741824) (hi : i < l.length) (hd : digB (l.getD i 0) = true) :
    Calls Tryz.prog 83 #[strV l, .int .i64 i] w fun e w' => e = .returned (placeV (placeM l i)) ∧ Below w.heap.size w w' := by
  have hs : (⟨l.toArray⟩ : ByteArray).size = l.length := by simp [ByteArray.size]
  have HX := Lib.hid (str_idx l)
  have HDI := Lib.hid hd
  obtain ⟨n, hn⟩ : ∃ n, n = l.length := ⟨_, rfl⟩
  have HN := Lib.hid hn
  rw [← hn] at hl hi hs
  clear hd hn
  unfold strV
  go_enter Tryz.func83, Tryz.ntmps83
  go_upto_region 1 with fail
  refine wp_named (fun wn => Below w.heap.size w wn ∧ wn.heap[w.heap.size]? = some (.cells #[.string ⟨#[]⟩, .int .i64 0, .bool false] 50 (0, 0))) ⟨(Below.refl _ w).alloc (Nat.le_refl _) _, heap_alloc_new _ _⟩ ?_
  rintro wn ⟨hbn, hrn⟩
  have HB := Lib.hid hbn
  have HRN := Lib.hid hrn
  have HZ := Lib.hid (row_lt hrn)
  clear hbn hrn
  go_wp2_with fail
  go_loopw [7] (fun v wr => ∃ k : Nat, i ≤ k ∧ k ≤ n ∧ v = .int .i64 k ∧ Hid (∀ j, i ≤ j → j < k → digB (l.getD j 0) = true) ∧ wr = wn) (fun v _ => n - (intOf v).toNat)
  case atStart => exact ⟨i, Nat.le_refl _, by omega, rfl, Lib.hid (fun j a b => by omega), rfl⟩
  case round =>
    rename_i wr
    obtain ⟨k, hik, hkn, rfl, hG, rfl⟩ := hrel
    by_cases h1 : k < n
    · have h1' : (k : Int) < (n : Int) := by omega
      have hx := HX.out k (by have := HN.out; omega)
      cases hdk : digB (l.getD k 0)
      case true =>
        have HDK := Lib.hid hdk
        unfold digB at hdk
        simp only [Bool.and_eq_true, decide_eq_true_eq] at hdk
        obtain ⟨a1, a2⟩ := hdk
        have b1 : (48 : Int) ≤ ((l.getD k 0).toNat : Int) := by omega
        have b2 : ((l.getD k 0).toNat : Int) ≤ 57 := by omega
        generalize hc : l.getD k 0 = c at *
        have HCC := Lib.hid hc
        clear hc a1 a2
        have q1 : IntKind.i64.wrap ((k : Int) + 1) = (k : Int) + 1 := IntWalk.i64_in _ (by omega)
        go_wp2_with fail
        go_roundw
        case rel => exact ⟨k + 1, by omega, by omega, rfl, Lib.hid (fun j a b => by
          by_cases e : j = k
          · rw [e, HCC.out]; exact HDK.out
          · exact hG.out j a (by omega)), trivial⟩
        case measure => simp only [intOf]; omega
      case false =>
        have HEND := Lib.hid (show k < l.length → digB (l.getD k 0) = false from fun _ => hdk)
        have HDE := Lib.hid (digs_eq l i k hik (by have := HN.out; omega) hG.out (fun h => HEND.out h))
        have HGG := hG
        have hx2 := HX.out i (by have := HN.out; omega)
        have hki : i < k := by
          rcases Nat.lt_or_ge i k with e | e
          · exact e
          · exfalso
            have e2 : k = i := by omega
            have := HEND.out (by have := HN.out; omega)
            rw [e2, HDI.out] at this
            cases this
        have q2 : IntKind.i64.wrap ((i : Int) + 1) = (i : Int) + 1 := IntWalk.i64_in _ (by omega)
        have q3 : IntKind.i64.wrap ((k : Int) - i) = (k : Int) - i := IntWalk.i64_in _ (by omega)
        clear hG
        unfold digB at hdk
        by_cases a1 : 48 ≤ (l.getD k 0).toNat
        · have a2 : ¬ (l.getD k 0).toNat ≤ 57 := by
            intro a2
            rw [decide_eq_true a1, decide_eq_true a2] at hdk
            cases hdk
          have b1 : (48 : Int) ≤ ((l.getD k 0).toNat : Int) := by omega
          have b2 : ¬ ((l.getD k 0).toNat : Int) ≤ 57 := by omega
          generalize l.getD k 0 = c at hx b1 b2
          clear hdk a1 a2
          by_cases hc0 : l.getD i 0 = 48
          · have m0 : ((l.getD i 0).toNat : Int) = 48 := by rw [hc0]; rfl
            rw [m0] at hx2
            clear m0
            by_cases hd1 : i + 1 < k
            · have hd1' : (i : Int) + 1 < k := by omega
              have HBAD := Lib.hid (show (l.getD i 0 = 48 ∧ 1 < k - i) ∨ 9 < k - i from .inl ⟨hc0, by omega⟩)
              clear hc0
              have HPL := Lib.hid (show placeM l i = (([], 0, false), 0, (i : Int), 4) from if_pos (by rw [HDE.out]; exact HBAD.out))
              have hrK := HRN.out
              obtain ⟨z0, z1, z2⟩ := at3 hrK
              have g0 := frozen_of_row _ _ 0 _ _ hrK
              have g1 := frozen_of_row _ _ 1 _ _ hrK
              have g2 := frozen_of_row _ _ 2 _ _ hrK
              have gz := HZ.out
              have hbb := HB.out
              clear hrK
              go_wp2_with fail
              (refine bodyPost_ret (v := .tuple #[.agg #[.string ⟨#[]⟩, .int .i64 0, .bool false], .int .i64 0, .bool false]) (by simp [results, Tryz.results83, go_sem, *]) rfl ?_)
              exact ⟨by rw [HPL.out]; rfl, below_three hbb (by omega) _ _ _⟩
            · have hd1' : ¬ (i : Int) + 1 < k := by omega
              have hd2 : ¬ (9 : Int) < (k : Int) - i := by omega
              have HNB := Lib.hid (show ¬ ((l.getD i 0 = 48 ∧ 1 < k - i) ∨ 9 < k - i) by rintro (⟨-, a⟩ | a) <;> omega)
              have HK9 := Lib.hid (show k - i ≤ 9 by omega)
              clear hc0
              have HPL := Lib.hid (show placeM l i = (([], (valU ((l.drop i).take (k - i)) : Int), false), (k : Int), 0, 0) by
                unfold placeM
                rw [if_neg (by rw [HDE.out]; exact HNB.out), HDE.out, show i + (k - i) = k by omega])
              have hk9 : k - i ≤ 9 := HK9.out
              go_wp2_with fail
              go_loopw [8, 9] (fun v8 v9 wr2 => ∃ j : Nat, i + j ≤ k ∧ v9 = .int .i64 ((i + j : Nat) : Int) ∧ v8 = .int .i64 (valU ((l.drop i).take j)) ∧ wr2 = wr) (fun _ v9 _ => k - (intOf v9).toNat)
              case atStart => exact ⟨0, by omega, rfl, rfl, rfl⟩
              case round =>
                obtain ⟨j, hjk, rfl, rfl, rfl⟩ := hrel
                by_cases h3 : i + j < k
                · have h3' : ((i + j : Nat) : Int) < (k : Int) := by omega
                  have hx3 := HX.out (i + j) (by have := HN.out; omega)
                  have hst : valU ((l.drop i).take (j + 1)) = 10 * valU ((l.drop i).take j) + ((l.getD (i + j) 0).toNat - 48) := by rw [take_snoc l i j (by have := HN.out; omega), valU_snoc]
                  have hvl := val_lt l i k (by have := HN.out; omega) HGG.out j (by omega)
                  have hpw : 10 ^ j ≤ 10 ^ 8 := Nat.pow_le_pow_right (by decide) (by omega)
                  have hdg := HGG.out (i + j) (by omega) (by omega)
                  unfold digB at hdg
                  simp only [Bool.and_eq_true, decide_eq_true_eq] at hdg
                  have q1 : IntKind.i64.wrap (((i + j : Nat) : Int) + 1) = ((i + j : Nat) : Int) + 1 := IntWalk.i64_in _ (by omega)
                  have hp8 : (10 : Nat) ^ 8 = 100000000 := by decide
                  have hv9 : valU ((l.drop i).take j) ≤ 100000000 := by omega
                  clear hp8
                  clear hvl hpw
                  generalize hcc : l.getD (i + j) 0 = c2 at *
                  generalize valU ((l.drop i).take j) = vv at *
                  obtain ⟨d, hdd⟩ : ∃ d : Nat, d = c2.toNat - 48 := ⟨_, rfl⟩
                  have hd9 : d ≤ 9 := by omega
                  have q2 : IntKind.u8.wrap ((c2.toNat : Int) - 48) = (d : Int) := by rw [IntWalk.u8_in _ (by omega)]; omega
                  have q3 : IntKind.i64.wrap (d : Int) = d := IntWalk.i64_in _ (by omega)
                  obtain ⟨y, hy⟩ : ∃ y : Int, y = 10 * (vv : Int) := ⟨_, rfl⟩
                  obtain ⟨y2, hy2⟩ : ∃ y2 : Int, y2 = y + d := ⟨_, rfl⟩
                  have q7 : IntKind.i64.wrap (10 * (vv : Int)) = y := by rw [hy]; exact IntWalk.i64_in _ (by omega)
                  have q8 : IntKind.i64.wrap (y + (d : Int)) = y2 := by rw [hy2]; exact IntWalk.i64_in _ (by omega)
                  have HFV := Lib.hid (show Value.int .i64 y2 = .int .i64 (valU ((l.drop i).take (j + 1))) by
                    rw [hst, ← hdd]
                    congr 1
                    push_cast
                    omega)
                  have HIJ := Lib.hid (show ((i + j : Nat) : Int) + 1 = ((i + (j + 1) : Nat) : Int) by push_cast; omega)
                  have HMJ := Lib.hid (And.intro h3 hjk)
                  clear hst hcc hdd hy hy2 hd9 hdg hv9
                  generalize (d : Int) = zd at *
                  generalize (vv : Int) = vz at *
                  generalize hij : ((i + j : Nat) : Int) = ij at *
                  go_wp2_with fail
                  go_roundw
                  case rel => exact ⟨j + 1, by have := HMJ.out; omega, by rw [HIJ.out], HFV.out, trivial⟩
                  case measure => have := HMJ.out; simp only [intOf]; omega
                · have h3' : ¬ ((i + j : Nat) : Int) < (k : Int) := by omega
                  have hjk2 : j = k - i := by omega
                  subst hjk2
                  have hik2 : i + (k - i) = k := by omega
                  have hrK := HRN.out
                  obtain ⟨z0, z1, z2⟩ := at3 hrK
                  have g0 := frozen_of_row _ _ 0 _ _ hrK
                  have g1 := frozen_of_row _ _ 1 _ _ hrK
                  have g2 := frozen_of_row _ _ 2 _ _ hrK
                  have gz := HZ.out
                  have hbb := HB.out
                  rw [hik2] at h3' ⊢
                  generalize valU ((l.drop i).take (k - i)) = vv at *
                  clear hrK
                  go_wp2_with fail
                  (refine bodyPost_ret (v := .tuple #[.agg #[.string ⟨#[]⟩, .int .i64 vv, .bool false], .int .i64 k, .bool true]) (by simp [results, Tryz.results83, go_sem, *]) rfl ?_)
                  exact ⟨by rw [HPL.out]; rfl, below_three hbb (by omega) _ _ _⟩
          · have m0 : (((l.getD i 0).toNat : Int) == 48) = false := by
              rw [beq_eq_false_iff_ne]
              intro e
              refine hc0 (UInt8.toNat_inj.1 ?_)
              show (l.getD i 0).toNat = 48
              omega
            by_cases hd2 : 9 < k - i
            · have hd2' : (9 : Int) < (k : Int) - i := by omega
              have HBAD := Lib.hid (show (l.getD i 0 = 48 ∧ 1 < k - i) ∨ 9 < k - i from .inr hd2)
              clear hc0
              generalize l.getD i 0 = ci at hx2 m0
              have HPL := Lib.hid (show placeM l i = (([], 0, false), 0, (i : Int), 4) from if_pos (by rw [HDE.out]; exact HBAD.out))
              have hrK := HRN.out
              obtain ⟨z0, z1, z2⟩ := at3 hrK
              have g0 := frozen_of_row _ _ 0 _ _ hrK
              have g1 := frozen_of_row _ _ 1 _ _ hrK
              have g2 := frozen_of_row _ _ 2 _ _ hrK
              have gz := HZ.out
              have hbb := HB.out
              clear hrK
              go_wp2_with fail
              (refine bodyPost_ret (v := .tuple #[.agg #[.string ⟨#[]⟩, .int .i64 0, .bool false], .int .i64 0, .bool false]) (by simp [results, Tryz.results83, go_sem, *]) rfl ?_)
              exact ⟨by rw [HPL.out]; rfl, below_three hbb (by omega) _ _ _⟩
            · have hd2' : ¬ (9 : Int) < (k : Int) - i := by omega
              have HNB := Lib.hid (show ¬ ((l.getD i 0 = 48 ∧ 1 < k - i) ∨ 9 < k - i) from fun h => h.elim (fun a => hc0 a.1) hd2)
              have HK9 := Lib.hid (show k - i ≤ 9 by omega)
              clear hc0
              generalize l.getD i 0 = ci at hx2 m0
              have HPL := Lib.hid (show placeM l i = (([], (valU ((l.drop i).take (k - i)) : Int), false), (k : Int), 0, 0) by
                unfold placeM
                rw [if_neg (by rw [HDE.out]; exact HNB.out), HDE.out, show i + (k - i) = k by omega])
              have hk9 : k - i ≤ 9 := HK9.out
              go_wp2_with fail
              go_loopw [8, 9] (fun v8 v9 wr2 => ∃ j : Nat, i + j ≤ k ∧ v9 = .int .i64 ((i + j : Nat) : Int) ∧ v8 = .int .i64 (valU ((l.drop i).take j)) ∧ wr2 = wr) (fun _ v9 _ => k - (intOf v9).toNat)
              case atStart => exact ⟨0, by omega, rfl, rfl, rfl⟩
              case round =>
                obtain ⟨j, hjk, rfl, rfl, rfl⟩ := hrel
                by_cases h3 : i + j < k
                · have h3' : ((i + j : Nat) : Int) < (k : Int) := by omega
                  have hx3 := HX.out (i + j) (by have := HN.out; omega)
                  have hst : valU ((l.drop i).take (j + 1)) = 10 * valU ((l.drop i).take j) + ((l.getD (i + j) 0).toNat - 48) := by rw [take_snoc l i j (by have := HN.out; omega), valU_snoc]
                  have hvl := val_lt l i k (by have := HN.out; omega) HGG.out j (by omega)
                  have hpw : 10 ^ j ≤ 10 ^ 8 := Nat.pow_le_pow_right (by decide) (by omega)
                  have hdg := HGG.out (i + j) (by omega) (by omega)
                  unfold digB at hdg
                  simp only [Bool.and_eq_true, decide_eq_true_eq] at hdg
                  have q1 : IntKind.i64.wrap (((i + j : Nat) : Int) + 1) = ((i + j : Nat) : Int) + 1 := IntWalk.i64_in _ (by omega)
                  have hp8 : (10 : Nat) ^ 8 = 100000000 := by decide
                  have hv9 : valU ((l.drop i).take j) ≤ 100000000 := by omega
                  clear hp8
                  clear hvl hpw
                  generalize hcc : l.getD (i + j) 0 = c2 at *
                  generalize valU ((l.drop i).take j) = vv at *
                  obtain ⟨d, hdd⟩ : ∃ d : Nat, d = c2.toNat - 48 := ⟨_, rfl⟩
                  have hd9 : d ≤ 9 := by omega
                  have q2 : IntKind.u8.wrap ((c2.toNat : Int) - 48) = (d : Int) := by rw [IntWalk.u8_in _ (by omega)]; omega
                  have q3 : IntKind.i64.wrap (d : Int) = d := IntWalk.i64_in _ (by omega)
                  obtain ⟨y, hy⟩ : ∃ y : Int, y = 10 * (vv : Int) := ⟨_, rfl⟩
                  obtain ⟨y2, hy2⟩ : ∃ y2 : Int, y2 = y + d := ⟨_, rfl⟩
                  have q7 : IntKind.i64.wrap (10 * (vv : Int)) = y := by rw [hy]; exact IntWalk.i64_in _ (by omega)
                  have q8 : IntKind.i64.wrap (y + (d : Int)) = y2 := by rw [hy2]; exact IntWalk.i64_in _ (by omega)
                  have HFV := Lib.hid (show Value.int .i64 y2 = .int .i64 (valU ((l.drop i).take (j + 1))) by
                    rw [hst, ← hdd]
                    congr 1
                    push_cast
                    omega)
                  have HIJ := Lib.hid (show ((i + j : Nat) : Int) + 1 = ((i + (j + 1) : Nat) : Int) by push_cast; omega)
                  have HMJ := Lib.hid (And.intro h3 hjk)
                  clear hst hcc hdd hy hy2 hd9 hdg hv9
                  generalize (d : Int) = zd at *
                  generalize (vv : Int) = vz at *
                  generalize hij : ((i + j : Nat) : Int) = ij at *
                  go_wp2_with fail
                  go_roundw
                  case rel => exact ⟨j + 1, by have := HMJ.out; omega, by rw [HIJ.out], HFV.out, trivial⟩
                  case measure => have := HMJ.out; simp only [intOf]; omega
                · have h3' : ¬ ((i + j : Nat) : Int) < (k : Int) := by omega
                  have hjk2 : j = k - i := by omega
                  subst hjk2
                  have hik2 : i + (k - i) = k := by omega
                  have hrK := HRN.out
                  obtain ⟨z0, z1, z2⟩ := at3 hrK
                  have g0 := frozen_of_row _ _ 0 _ _ hrK
                  have g1 := frozen_of_row _ _ 1 _ _ hrK
                  have g2 := frozen_of_row _ _ 2 _ _ hrK
                  have gz := HZ.out
                  have hbb := HB.out
                  rw [hik2] at h3' ⊢
                  generalize valU ((l.drop i).take (k - i)) = vv at *
                  clear hrK
                  go_wp2_with fail
                  (refine bodyPost_ret (v := .tuple #[.agg #[.string ⟨#[]⟩, .int .i64 vv, .bool false], .int .i64 k, .bool true]) (by simp [results, Tryz.results83, go_sem, *]) rfl ?_)
                  exact ⟨by rw [HPL.out]; rfl, below_three hbb (by omega) _ _ _⟩
        · have b1 : ¬ (48 : Int) ≤ ((l.getD k 0).toNat : Int) := by omega
          generalize l.getD k 0 = c at hx b1
          clear hdk a1
          by_cases hc0 : l.getD i 0 = 48
          · have m0 : ((l.getD i 0).toNat : Int) = 48 := by rw [hc0]; rfl
            rw [m0] at hx2
            clear m0
            by_cases hd1 : i + 1 < k
            · have hd1' : (i : Int) + 1 < k := by omega
              have HBAD := Lib.hid (show (l.getD i 0 = 48 ∧ 1 < k - i) ∨ 9 < k - i from .inl ⟨hc0, by omega⟩)
              clear hc0
              have HPL := Lib.hid (show placeM l i = (([], 0, false), 0, (i : Int), 4) from if_pos (by rw [HDE.out]; exact HBAD.out))
              have hrK := HRN.out
              obtain ⟨z0, z1, z2⟩ := at3 hrK
              have g0 := frozen_of_row _ _ 0 _ _ hrK
              have g1 := frozen_of_row _ _ 1 _ _ hrK
              have g2 := frozen_of_row _ _ 2 _ _ hrK
              have gz := HZ.out
              have hbb := HB.out
              clear hrK
              go_wp2_with fail
              (refine bodyPost_ret (v := .tuple #[.agg #[.string ⟨#[]⟩, .int .i64 0, .bool false], .int .i64 0, .bool false]) (by simp [results, Tryz.results83, go_sem, *]) rfl ?_)
              exact ⟨by rw [HPL.out]; rfl, below_three hbb (by omega) _ _ _⟩
            · have hd1' : ¬ (i : Int) + 1 < k := by omega
              have hd2 : ¬ (9 : Int) < (k : Int) - i := by omega
              have HNB := Lib.hid (show ¬ ((l.getD i 0 = 48 ∧ 1 < k - i) ∨ 9 < k - i) by rintro (⟨-, a⟩ | a) <;> omega)
              have HK9 := Lib.hid (show k - i ≤ 9 by omega)
              clear hc0
              have HPL := Lib.hid (show placeM l i = (([], (valU ((l.drop i).take (k - i)) : Int), false), (k : Int), 0, 0) by
                unfold placeM
                rw [if_neg (by rw [HDE.out]; exact HNB.out), HDE.out, show i + (k - i) = k by omega])
              have hk9 : k - i ≤ 9 := HK9.out
              go_wp2_with fail
              go_loopw [8, 9] (fun v8 v9 wr2 => ∃ j : Nat, i + j ≤ k ∧ v9 = .int .i64 ((i + j : Nat) : Int) ∧ v8 = .int .i64 (valU ((l.drop i).take j)) ∧ wr2 = wr) (fun _ v9 _ => k - (intOf v9).toNat)
              case atStart => exact ⟨0, by omega, rfl, rfl, rfl⟩
              case round =>
                obtain ⟨j, hjk, rfl, rfl, rfl⟩ := hrel
                by_cases h3 : i + j < k
                · have h3' : ((i + j : Nat) : Int) < (k : Int) := by omega
                  have hx3 := HX.out (i + j) (by have := HN.out; omega)
                  have hst : valU ((l.drop i).take (j + 1)) = 10 * valU ((l.drop i).take j) + ((l.getD (i + j) 0).toNat - 48) := by rw [take_snoc l i j (by have := HN.out; omega), valU_snoc]
                  have hvl := val_lt l i k (by have := HN.out; omega) HGG.out j (by omega)
                  have hpw : 10 ^ j ≤ 10 ^ 8 := Nat.pow_le_pow_right (by decide) (by omega)
                  have hdg := HGG.out (i + j) (by omega) (by omega)
                  unfold digB at hdg
                  simp only [Bool.and_eq_true, decide_eq_true_eq] at hdg
                  have q1 : IntKind.i64.wrap (((i + j : Nat) : Int) + 1) = ((i + j : Nat) : Int) + 1 := IntWalk.i64_in _ (by omega)
                  have hp8 : (10 : Nat) ^ 8 = 100000000 := by decide
                  have hv9 : valU ((l.drop i).take j) ≤ 100000000 := by omega
                  clear hp8
                  clear hvl hpw
                  generalize hcc : l.getD (i + j) 0 = c2 at *
                  generalize valU ((l.drop i).take j) = vv at *
                  obtain ⟨d, hdd⟩ : ∃ d : Nat, d = c2.toNat - 48 := ⟨_, rfl⟩
                  have hd9 : d ≤ 9 := by omega
                  have q2 : IntKind.u8.wrap ((c2.toNat : Int) - 48) = (d : Int) := by rw [IntWalk.u8_in _ (by omega)]; omega
                  have q3 : IntKind.i64.wrap (d : Int) = d := IntWalk.i64_in _ (by omega)
                  obtain ⟨y, hy⟩ : ∃ y : Int, y = 10 * (vv : Int) := ⟨_, rfl⟩
                  obtain ⟨y2, hy2⟩ : ∃ y2 : Int, y2 = y + d := ⟨_, rfl⟩
                  have q7 : IntKind.i64.wrap (10 * (vv : Int)) = y := by rw [hy]; exact IntWalk.i64_in _ (by omega)
                  have q8 : IntKind.i64.wrap (y + (d : Int)) = y2 := by rw [hy2]; exact IntWalk.i64_in _ (by omega)
                  have HFV := Lib.hid (show Value.int .i64 y2 = .int .i64 (valU ((l.drop i).take (j + 1))) by
                    rw [hst, ← hdd]
                    congr 1
                    push_cast
                    omega)
                  have HIJ := Lib.hid (show ((i + j : Nat) : Int) + 1 = ((i + (j + 1) : Nat) : Int) by push_cast; omega)
                  have HMJ := Lib.hid (And.intro h3 hjk)
                  clear hst hcc hdd hy hy2 hd9 hdg hv9
                  generalize (d : Int) = zd at *
                  generalize (vv : Int) = vz at *
                  generalize hij : ((i + j : Nat) : Int) = ij at *
                  go_wp2_with fail
                  go_roundw
                  case rel => exact ⟨j + 1, by have := HMJ.out; omega, by rw [HIJ.out], HFV.out, trivial⟩
                  case measure => have := HMJ.out; simp only [intOf]; omega
                · have h3' : ¬ ((i + j : Nat) : Int) < (k : Int) := by omega
                  have hjk2 : j = k - i := by omega
                  subst hjk2
                  have hik2 : i + (k - i) = k := by omega
                  have hrK := HRN.out
                  obtain ⟨z0, z1, z2⟩ := at3 hrK
                  have g0 := frozen_of_row _ _ 0 _ _ hrK
                  have g1 := frozen_of_row _ _ 1 _ _ hrK
                  have g2 := frozen_of_row _ _ 2 _ _ hrK
                  have gz := HZ.out
                  have hbb := HB.out
                  rw [hik2] at h3' ⊢
                  generalize valU ((l.drop i).take (k - i)) = vv at *
                  clear hrK
                  go_wp2_with fail
                  (refine bodyPost_ret (v := .tuple #[.agg #[.string ⟨#[]⟩, .int .i64 vv, .bool false], .int .i64 k, .bool true]) (by simp [results, Tryz.results83, go_sem, *]) rfl ?_)
                  exact ⟨by rw [HPL.out]; rfl, below_three hbb (by omega) _ _ _⟩
          · have m0 : (((l.getD i 0).toNat : Int) == 48) = false := by
              rw [beq_eq_false_iff_ne]
              intro e
              refine hc0 (UInt8.toNat_inj.1 ?_)
              show (l.getD i 0).toNat = 48
              omega
            by_cases hd2 : 9 < k - i
            · have hd2' : (9 : Int) < (k : Int) - i := by omega
              have HBAD := Lib.hid (show (l.getD i 0 = 48 ∧ 1 < k - i) ∨ 9 < k - i from .inr hd2)
              clear hc0
              generalize l.getD i 0 = ci at hx2 m0
              have HPL := Lib.hid (show placeM l i = (([], 0, false), 0, (i : Int), 4) from if_pos (by rw [HDE.out]; exact HBAD.out))
              have hrK := HRN.out
              obtain ⟨z0, z1, z2⟩ := at3 hrK
              have g0 := frozen_of_row _ _ 0 _ _ hrK
              have g1 := frozen_of_row _ _ 1 _ _ hrK
              have g2 := frozen_of_row _ _ 2 _ _ hrK
              have gz := HZ.out
              have hbb := HB.out
              clear hrK
              go_wp2_with fail
              (refine bodyPost_ret (v := .tuple #[.agg #[.string ⟨#[]⟩, .int .i64 0, .bool false], .int .i64 0, .bool false]) (by simp [results, Tryz.results83, go_sem, *]) rfl ?_)
              exact ⟨by rw [HPL.out]; rfl, below_three hbb (by omega) _ _ _⟩
            · have hd2' : ¬ (9 : Int) < (k : Int) - i := by omega
              have HNB := Lib.hid (show ¬ ((l.getD i 0 = 48 ∧ 1 < k - i) ∨ 9 < k - i) from fun h => h.elim (fun a => hc0 a.1) hd2)
              have HK9 := Lib.hid (show k - i ≤ 9 by omega)
              clear hc0
              generalize l.getD i 0 = ci at hx2 m0
              have HPL := Lib.hid (show placeM l i = (([], (valU ((l.drop i).take (k - i)) : Int), false), (k : Int), 0, 0) by
                unfold placeM
                rw [if_neg (by rw [HDE.out]; exact HNB.out), HDE.out, show i + (k - i) = k by omega])
              have hk9 : k - i ≤ 9 := HK9.out
              go_wp2_with fail
              go_loopw [8, 9] (fun v8 v9 wr2 => ∃ j : Nat, i + j ≤ k ∧ v9 = .int .i64 ((i + j : Nat) : Int) ∧ v8 = .int .i64 (valU ((l.drop i).take j)) ∧ wr2 = wr) (fun _ v9 _ => k - (intOf v9).toNat)
              case atStart => exact ⟨0, by omega, rfl, rfl, rfl⟩
              case round =>
                obtain ⟨j, hjk, rfl, rfl, rfl⟩ := hrel
                by_cases h3 : i + j < k
                · have h3' : ((i + j : Nat) : Int) < (k : Int) := by omega
                  have hx3 := HX.out (i + j) (by have := HN.out; omega)
                  have hst : valU ((l.drop i).take (j + 1)) = 10 * valU ((l.drop i).take j) + ((l.getD (i + j) 0).toNat - 48) := by rw [take_snoc l i j (by have := HN.out; omega), valU_snoc]
                  have hvl := val_lt l i k (by have := HN.out; omega) HGG.out j (by omega)
                  have hpw : 10 ^ j ≤ 10 ^ 8 := Nat.pow_le_pow_right (by decide) (by omega)
                  have hdg := HGG.out (i + j) (by omega) (by omega)
                  unfold digB at hdg
                  simp only [Bool.and_eq_true, decide_eq_true_eq] at hdg
                  have q1 : IntKind.i64.wrap (((i + j : Nat) : Int) + 1) = ((i + j : Nat) : Int) + 1 := IntWalk.i64_in _ (by omega)
                  have hp8 : (10 : Nat) ^ 8 = 100000000 := by decide
                  have hv9 : valU ((l.drop i).take j) ≤ 100000000 := by omega
                  clear hp8
                  clear hvl hpw
                  generalize hcc : l.getD (i + j) 0 = c2 at *
                  generalize valU ((l.drop i).take j) = vv at *
                  obtain ⟨d, hdd⟩ : ∃ d : Nat, d = c2.toNat - 48 := ⟨_, rfl⟩
                  have hd9 : d ≤ 9 := by omega
                  have q2 : IntKind.u8.wrap ((c2.toNat : Int) - 48) = (d : Int) := by rw [IntWalk.u8_in _ (by omega)]; omega
                  have q3 : IntKind.i64.wrap (d : Int) = d := IntWalk.i64_in _ (by omega)
                  obtain ⟨y, hy⟩ : ∃ y : Int, y = 10 * (vv : Int) := ⟨_, rfl⟩
                  obtain ⟨y2, hy2⟩ : ∃ y2 : Int, y2 = y + d := ⟨_, rfl⟩
                  have q7 : IntKind.i64.wrap (10 * (vv : Int)) = y := by rw [hy]; exact IntWalk.i64_in _ (by omega)
                  have q8 : IntKind.i64.wrap (y + (d : Int)) = y2 := by rw [hy2]; exact IntWalk.i64_in _ (by omega)
                  have HFV := Lib.hid (show Value.int .i64 y2 = .int .i64 (valU ((l.drop i).take (j + 1))) by
                    rw [hst, ← hdd]
                    congr 1
                    push_cast
                    omega)
                  have HIJ := Lib.hid (show ((i + j : Nat) : Int) + 1 = ((i + (j + 1) : Nat) : Int) by push_cast; omega)
                  have HMJ := Lib.hid (And.intro h3 hjk)
                  clear hst hcc hdd hy hy2 hd9 hdg hv9
                  generalize (d : Int) = zd at *
                  generalize (vv : Int) = vz at *
                  generalize hij : ((i + j : Nat) : Int) = ij at *
                  go_wp2_with fail
                  go_roundw
                  case rel => exact ⟨j + 1, by have := HMJ.out; omega, by rw [HIJ.out], HFV.out, trivial⟩
                  case measure => have := HMJ.out; simp only [intOf]; omega
                · have h3' : ¬ ((i + j : Nat) : Int) < (k : Int) := by omega
                  have hjk2 : j = k - i := by omega
                  subst hjk2
                  have hik2 : i + (k - i) = k := by omega
                  have hrK := HRN.out
                  obtain ⟨z0, z1, z2⟩ := at3 hrK
                  have g0 := frozen_of_row _ _ 0 _ _ hrK
                  have g1 := frozen_of_row _ _ 1 _ _ hrK
                  have g2 := frozen_of_row _ _ 2 _ _ hrK
                  have gz := HZ.out
                  have hbb := HB.out
                  rw [hik2] at h3' ⊢
                  generalize valU ((l.drop i).take (k - i)) = vv at *
                  clear hrK
                  go_wp2_with fail
                  (refine bodyPost_ret (v := .tuple #[.agg #[.string ⟨#[]⟩, .int .i64 vv, .bool false], .int .i64 k, .bool true]) (by simp [results, Tryz.results83, go_sem, *]) rfl ?_)
                  exact ⟨by rw [HPL.out]; rfl, below_three hbb (by omega) _ _ _⟩
    · have h1' : ¬ (k : Int) < (n : Int) := by omega
      have HEND := Lib.hid (show k < l.length → digB (l.getD k 0) = false from fun h => by have := HN.out; omega)
      have HDE := Lib.hid (digs_eq l i k hik (by have := HN.out; omega) hG.out (fun h => HEND.out h))
      have HGG := hG
      have hx2 := HX.out i (by have := HN.out; omega)
      have hki : i < k := by
        rcases Nat.lt_or_ge i k with e | e
        · exact e
        · exfalso
          have e2 : k = i := by omega
          have := HEND.out (by have := HN.out; omega)
          rw [e2, HDI.out] at this
          cases this
      have q2 : IntKind.i64.wrap ((i : Int) + 1) = (i : Int) + 1 := IntWalk.i64_in _ (by omega)
      have q3 : IntKind.i64.wrap ((k : Int) - i) = (k : Int) - i := IntWalk.i64_in _ (by omega)
      clear hG
      by_cases hc0 : l.getD i 0 = 48
      · have m0 : ((l.getD i 0).toNat : Int) = 48 := by rw [hc0]; rfl
        rw [m0] at hx2
        clear m0
        by_cases hd1 : i + 1 < k
        · have hd1' : (i : Int) + 1 < k := by omega
          have HBAD := Lib.hid (show (l.getD i 0 = 48 ∧ 1 < k - i) ∨ 9 < k - i from .inl ⟨hc0, by omega⟩)
          clear hc0
          have HPL := Lib.hid (show placeM l i = (([], 0, false), 0, (i : Int), 4) from if_pos (by rw [HDE.out]; exact HBAD.out))
          have hrK := HRN.out
          obtain ⟨z0, z1, z2⟩ := at3 hrK
          have g0 := frozen_of_row _ _ 0 _ _ hrK
          have g1 := frozen_of_row _ _ 1 _ _ hrK
          have g2 := frozen_of_row _ _ 2 _ _ hrK
          have gz := HZ.out
          have hbb := HB.out
          clear hrK
          go_wp2_with fail
          (refine bodyPost_ret (v := .tuple #[.agg #[.string ⟨#[]⟩, .int .i64 0, .bool false], .int .i64 0, .bool false]) (by simp [results, Tryz.results83, go_sem, *]) rfl ?_)
          exact ⟨by rw [HPL.out]; rfl, below_three hbb (by omega) _ _ _⟩
        · have hd1' : ¬ (i : Int) + 1 < k := by omega
          have hd2 : ¬ (9 : Int) < (k : Int) - i := by omega
          have HNB := Lib.hid (show ¬ ((l.getD i 0 = 48 ∧ 1 < k - i) ∨ 9 < k - i) by rintro (⟨-, a⟩ | a) <;> omega)
          have HK9 := Lib.hid (show k - i ≤ 9 by omega)
          clear hc0
          have HPL := Lib.hid (show placeM l i = (([], (valU ((l.drop i).take (k - i)) : Int), false), (k : Int), 0, 0) by
            unfold placeM
            rw [if_neg (by rw [HDE.out]; exact HNB.out), HDE.out, show i + (k - i) = k by omega])
          have hk9 : k - i ≤ 9 := HK9.out
          go_wp2_with fail
          go_loopw [8, 9] (fun v8 v9 wr2 => ∃ j : Nat, i + j ≤ k ∧ v9 = .int .i64 ((i + j : Nat) : Int) ∧ v8 = .int .i64 (valU ((l.drop i).take j)) ∧ wr2 = wr) (fun _ v9 _ => k - (intOf v9).toNat)
          case atStart => exact ⟨0, by omega, rfl, rfl, rfl⟩
          case round =>
            obtain ⟨j, hjk, rfl, rfl, rfl⟩ := hrel
            by_cases h3 : i + j < k
            · have h3' : ((i + j : Nat) : Int) < (k : Int) := by omega
              have hx3 := HX.out (i + j) (by have := HN.out; omega)
              have hst : valU ((l.drop i).take (j + 1)) = 10 * valU ((l.drop i).take j) + ((l.getD (i + j) 0).toNat - 48) := by rw [take_snoc l i j (by have := HN.out; omega), valU_snoc]
              have hvl := val_lt l i k (by have := HN.out; omega) HGG.out j (by omega)
              have hpw : 10 ^ j ≤ 10 ^ 8 := Nat.pow_le_pow_right (by decide) (by omega)
              have hdg := HGG.out (i + j) (by omega) (by omega)
              unfold digB at hdg
              simp only [Bool.and_eq_true, decide_eq_true_eq] at hdg
              have q1 : IntKind.i64.wrap (((i + j : Nat) : Int) + 1) = ((i + j : Nat) : Int) + 1 := IntWalk.i64_in _ (by omega)
              have hp8 : (10 : Nat) ^ 8 = 100000000 := by decide
              have hv9 : valU ((l.drop i).take j) ≤ 100000000 := by omega
              clear hp8
              clear hvl hpw
              generalize hcc : l.getD (i + j) 0 = c2 at *
              generalize valU ((l.drop i).take j) = vv at *
              obtain ⟨d, hdd⟩ : ∃ d : Nat, d = c2.toNat - 48 := ⟨_, rfl⟩
              have hd9 : d ≤ 9 := by omega
              have q2 : IntKind.u8.wrap ((c2.toNat : Int) - 48) = (d : Int) := by rw [IntWalk.u8_in _ (by omega)]; omega
              have q3 : IntKind.i64.wrap (d : Int) = d := IntWalk.i64_in _ (by omega)
              obtain ⟨y, hy⟩ : ∃ y : Int, y = 10 * (vv : Int) := ⟨_, rfl⟩
              obtain ⟨y2, hy2⟩ : ∃ y2 : Int, y2 = y + d := ⟨_, rfl⟩
              have q7 : IntKind.i64.wrap (10 * (vv : Int)) = y := by rw [hy]; exact IntWalk.i64_in _ (by omega)
              have q8 : IntKind.i64.wrap (y + (d : Int)) = y2 := by rw [hy2]; exact IntWalk.i64_in _ (by omega)
              have HFV := Lib.hid (show Value.int .i64 y2 = .int .i64 (valU ((l.drop i).take (j + 1))) by
                rw [hst, ← hdd]
                congr 1
                push_cast
                omega)
              have HIJ := Lib.hid (show ((i + j : Nat) : Int) + 1 = ((i + (j + 1) : Nat) : Int) by push_cast; omega)
              have HMJ := Lib.hid (And.intro h3 hjk)
              clear hst hcc hdd hy hy2 hd9 hdg hv9
              generalize (d : Int) = zd at *
              generalize (vv : Int) = vz at *
              generalize hij : ((i + j : Nat) : Int) = ij at *
              go_wp2_with fail
              go_roundw
              case rel => exact ⟨j + 1, by have := HMJ.out; omega, by rw [HIJ.out], HFV.out, trivial⟩
              case measure => have := HMJ.out; simp only [intOf]; omega
            · have h3' : ¬ ((i + j : Nat) : Int) < (k : Int) := by omega
              have hjk2 : j = k - i := by omega
              subst hjk2
              have hik2 : i + (k - i) = k := by omega
              have hrK := HRN.out
              obtain ⟨z0, z1, z2⟩ := at3 hrK
              have g0 := frozen_of_row _ _ 0 _ _ hrK
              have g1 := frozen_of_row _ _ 1 _ _ hrK
              have g2 := frozen_of_row _ _ 2 _ _ hrK
              have gz := HZ.out
              have hbb := HB.out
              rw [hik2] at h3' ⊢
              generalize valU ((l.drop i).take (k - i)) = vv at *
              clear hrK
              go_wp2_with fail
              (refine bodyPost_ret (v := .tuple #[.agg #[.string ⟨#[]⟩, .int .i64 vv, .bool false], .int .i64 k, .bool true]) (by simp [results, Tryz.results83, go_sem, *]) rfl ?_)
              exact ⟨by rw [HPL.out]; rfl, below_three hbb (by omega) _ _ _⟩
      · have m0 : (((l.getD i 0).toNat : Int) == 48) = false := by
          rw [beq_eq_false_iff_ne]
          intro e
          refine hc0 (UInt8.toNat_inj.1 ?_)
          show (l.getD i 0).toNat = 48
          omega
        by_cases hd2 : 9 < k - i
        · have hd2' : (9 : Int) < (k : Int) - i := by omega
          have HBAD := Lib.hid (show (l.getD i 0 = 48 ∧ 1 < k - i) ∨ 9 < k - i from .inr hd2)
          clear hc0
          generalize l.getD i 0 = ci at hx2 m0
          have HPL := Lib.hid (show placeM l i = (([], 0, false), 0, (i : Int), 4) from if_pos (by rw [HDE.out]; exact HBAD.out))
          have hrK := HRN.out
          obtain ⟨z0, z1, z2⟩ := at3 hrK
          have g0 := frozen_of_row _ _ 0 _ _ hrK
          have g1 := frozen_of_row _ _ 1 _ _ hrK
          have g2 := frozen_of_row _ _ 2 _ _ hrK
          have gz := HZ.out
          have hbb := HB.out
          clear hrK
          go_wp2_with fail
          (refine bodyPost_ret (v := .tuple #[.agg #[.string ⟨#[]⟩, .int .i64 0, .bool false], .int .i64 0, .bool false]) (by simp [results, Tryz.results83, go_sem, *]) rfl ?_)
          exact ⟨by rw [HPL.out]; rfl, below_three hbb (by omega) _ _ _⟩
        · have hd2' : ¬ (9 : Int) < (k : Int) - i := by omega
          have HNB := Lib.hid (show ¬ ((l.getD i 0 = 48 ∧ 1 < k - i) ∨ 9 < k - i) from fun h => h.elim (fun a => hc0 a.1) hd2)
          have HK9 := Lib.hid (show k - i ≤ 9 by omega)
          clear hc0
          generalize l.getD i 0 = ci at hx2 m0
          have HPL := Lib.hid (show placeM l i = (([], (valU ((l.drop i).take (k - i)) : Int), false), (k : Int), 0, 0) by
            unfold placeM
            rw [if_neg (by rw [HDE.out]; exact HNB.out), HDE.out, show i + (k - i) = k by omega])
          have hk9 : k - i ≤ 9 := HK9.out
          go_wp2_with fail
          go_loopw [8, 9] (fun v8 v9 wr2 => ∃ j : Nat, i + j ≤ k ∧ v9 = .int .i64 ((i + j : Nat) : Int) ∧ v8 = .int .i64 (valU ((l.drop i).take j)) ∧ wr2 = wr) (fun _ v9 _ => k - (intOf v9).toNat)
          case atStart => exact ⟨0, by omega, rfl, rfl, rfl⟩
          case round =>
            obtain ⟨j, hjk, rfl, rfl, rfl⟩ := hrel
            by_cases h3 : i + j < k
            · have h3' : ((i + j : Nat) : Int) < (k : Int) := by omega
              have hx3 := HX.out (i + j) (by have := HN.out; omega)
              have hst : valU ((l.drop i).take (j + 1)) = 10 * valU ((l.drop i).take j) + ((l.getD (i + j) 0).toNat - 48) := by rw [take_snoc l i j (by have := HN.out; omega), valU_snoc]
              have hvl := val_lt l i k (by have := HN.out; omega) HGG.out j (by omega)
              have hpw : 10 ^ j ≤ 10 ^ 8 := Nat.pow_le_pow_right (by decide) (by omega)
              have hdg := HGG.out (i + j) (by omega) (by omega)
              unfold digB at hdg
              simp only [Bool.and_eq_true, decide_eq_true_eq] at hdg
              have q1 : IntKind.i64.wrap (((i + j : Nat) : Int) + 1) = ((i + j : Nat) : Int) + 1 := IntWalk.i64_in _ (by omega)
              have hp8 : (10 : Nat) ^ 8 = 100000000 := by decide
              have hv9 : valU ((l.drop i).take j) ≤ 100000000 := by omega
              clear hp8
              clear hvl hpw
              generalize hcc : l.getD (i + j) 0 = c2 at *
              generalize valU ((l.drop i).take j) = vv at *
              obtain ⟨d, hdd⟩ : ∃ d : Nat, d = c2.toNat - 48 := ⟨_, rfl⟩
              have hd9 : d ≤ 9 := by omega
              have q2 : IntKind.u8.wrap ((c2.toNat : Int) - 48) = (d : Int) := by rw [IntWalk.u8_in _ (by omega)]; omega
              have q3 : IntKind.i64.wrap (d : Int) = d := IntWalk.i64_in _ (by omega)
              obtain ⟨y, hy⟩ : ∃ y : Int, y = 10 * (vv : Int) := ⟨_, rfl⟩
              obtain ⟨y2, hy2⟩ : ∃ y2 : Int, y2 = y + d := ⟨_, rfl⟩
              have q7 : IntKind.i64.wrap (10 * (vv : Int)) = y := by rw [hy]; exact IntWalk.i64_in _ (by omega)
              have q8 : IntKind.i64.wrap (y + (d : Int)) = y2 := by rw [hy2]; exact IntWalk.i64_in _ (by omega)
              have HFV := Lib.hid (show Value.int .i64 y2 = .int .i64 (valU ((l.drop i).take (j + 1))) by
                rw [hst, ← hdd]
                congr 1
                push_cast
                omega)
              have HIJ := Lib.hid (show ((i + j : Nat) : Int) + 1 = ((i + (j + 1) : Nat) : Int) by push_cast; omega)
              have HMJ := Lib.hid (And.intro h3 hjk)
              clear hst hcc hdd hy hy2 hd9 hdg hv9
              generalize (d : Int) = zd at *
              generalize (vv : Int) = vz at *
              generalize hij : ((i + j : Nat) : Int) = ij at *
              go_wp2_with fail
              go_roundw
              case rel => exact ⟨j + 1, by have := HMJ.out; omega, by rw [HIJ.out], HFV.out, trivial⟩
              case measure => have := HMJ.out; simp only [intOf]; omega
            · have h3' : ¬ ((i + j : Nat) : Int) < (k : Int) := by omega
              have hjk2 : j = k - i := by omega
              subst hjk2
              have hik2 : i + (k - i) = k := by omega
              have hrK := HRN.out
              obtain ⟨z0, z1, z2⟩ := at3 hrK
              have g0 := frozen_of_row _ _ 0 _ _ hrK
              have g1 := frozen_of_row _ _ 1 _ _ hrK
              have g2 := frozen_of_row _ _ 2 _ _ hrK
              have gz := HZ.out
              have hbb := HB.out
              rw [hik2] at h3' ⊢
              generalize valU ((l.drop i).take (k - i)) = vv at *
              clear hrK
              go_wp2_with fail
              (refine bodyPost_ret (v := .tuple #[.agg #[.string ⟨#[]⟩, .int .i64 vv, .bool false], .int .i64 k, .bool true]) (by simp [results, Tryz.results83, go_sem, *]) rfl ?_)
              exact ⟨by rw [HPL.out]; rfl, below_three hbb (by omega) _ _ _⟩
end Go.Proofs.YtlblddeemkefkaaGreatDoor
