/- The walk of the reference's step: written by wip/gen/rs.py. -/
import Derived.Test.YtlblddeemkefkaaGreatDoorRg
import Derived.Test.YtlblddeemkefkaaGreatDoorNs
import Derived.Test.YtlblddeemkefkaaGreatDoorYc
namespace Go.Proofs.YtlblddeemkefkaaGreatDoor
set_option linter.unusedVariables false
set_option linter.unusedSimpArgs false
open Go.RowKit Go.Shelf
theorem rquoR_ge (r : Nat) : (Lib.encodeRune (r : Int)).length ≤ (quoR r).length := by
  unfold quoR
  split
  · rename_i h
    have h1 : r < 128 := by
      rcases Nat.lt_or_ge r 128 with h2 | h2
      · exact h2
      · have := h.1
        unfold qIdx at this
        rw [if_neg (by omega)] at this
        omega
    rw [enc_one h1]
    simp
  · split
    · rename_i h
      rw [enc_one (by omega)]
      simp
    · exact Nat.le_refl _
theorem rquoD_ge : ∀ (g : Nat) (l : List UInt8), Lib.validD l = true → l.length ≤ g → l.length ≤ (quoD g l).length
  | 0, l, _, h => by omega
  | g + 1, l, hv, hl => by
    by_cases hne : l = []
    · subst hne; simp
    · rw [Lib.validD_step l hne] at hv
      by_cases hb : (Lib.decodeL l).1 = 65533 ∧ (Lib.decodeL l).2 = 1
      · rw [if_pos hb] at hv; cases hv
      rw [if_neg hb] at hv
      have henc := Lib.encode_decode l hne hb
      have hw := Lib.decodeL_width l
      have hd := Lib.decodeL_le l hne
      have hpos : 0 < l.length := List.length_pos_iff.2 hne
      have h1 := rquoD_ge g (l.drop (Lib.decodeL l).2) hv (by rw [List.length_drop]; omega)
      have h2 := rquoR_ge (Lib.decodeL l).1
      rw [henc, List.length_take] at h2
      rw [List.length_drop] at h1
      rw [quoD, if_neg hne, List.length_append]
      omega
theorem rkey_le {k : List UInt8} (h : Lib.validD k = true) : k.length ≤ (quoL' k).length := by
  rw [quoL_eq, List.length_cons, List.length_append]
  have := rquoD_ge k.length k h (Nat.le_refl _)
  omega
theorem unq_short (l : List UInt8) : (unqM l).2.2.2 = 0 → (unqM l).1.length ≤ l.length := by
  intro h
  obtain ⟨⟨k, n, b, e⟩, hu⟩ : ∃ x, unqM l = x := ⟨_, rfl⟩
  rw [hu] at h ⊢
  dsimp only at h ⊢
  subst h
  obtain ⟨h1, h2, h3, -⟩ := unq_inv hu
  have := rkey_le h1
  omega
theorem row3_set {w : World} {g : Nat} {v0 v1 v2 : Value} {ty : TypeId} (h : w.heap[g]? = some (.cells #[v0, v1, v2] ty (0, 0))) (a0 a1 a2 : Value) :
    (((w.setCell ⟨g, 0, none⟩ a0).setCell ⟨g, 1, none⟩ a1).setCell ⟨g, 2, none⟩ a2).heap[g]? = some (.cells #[a0, a1, a2] ty (0, 0)) := by
  have hlt := (Array.getElem?_eq_some_iff.1 h).1
  simp [World.setCell, Array.getElem?_modify, h]
theorem one_a (l : List UInt8) (i : Nat) (h : l.getD i 0 ≠ 91) : endM l (oneM l i 0) = errS i 4 := by
  unfold oneM
  rw [if_neg (by decide), if_pos h]
  exact endM_err (show (4 : Int) ≠ 0 by decide)
theorem one_b (l : List UInt8) (i : Nat) (h : l.getD i 0 = 91) (h1 : i + 1 < l.length) (h2 : digB (l.getD (i + 1) 0) = true) : endM l (oneM l i 0) = endM l (placeM l (i + 1)) := by
  unfold oneM
  rw [if_neg (by decide), if_neg (fun e => e h), if_pos ⟨h1, h2⟩]
theorem one_c (l : List UInt8) (i : Nat) (h : l.getD i 0 = 91) (h1 : i + 1 < l.length) (h2 : digB (l.getD (i + 1) 0) = false) (h3 : l.getD (i + 1) 0 = 34) : endM l (oneM l i 0) = endM l (nameM l (i + 1)) := by
  unfold oneM
  rw [if_neg (by decide), if_neg (fun e => e h), if_neg (by rw [h2]; simp), if_pos ⟨h1, h3⟩]
theorem one_d (l : List UInt8) (i : Nat) (h : l.getD i 0 = 91) (h2 : ¬ (i + 1 < l.length ∧ digB (l.getD (i + 1) 0) = true)) (h3 : ¬ (i + 1 < l.length ∧ l.getD (i + 1) 0 = 34)) : endM l (oneM l i 0) = errS ((i + 1 : Nat) : Int) 4 := by
  unfold oneM
  rw [if_neg (by decide), if_neg (fun e => e h), if_neg h2, if_neg h3]
  exact endM_err (show (4 : Int) ≠ 0 by decide)
theorem end_a (l : List UInt8) (x : PS) (e : Nat) (h : e < l.length) (h2 : l.getD e 0 = 93) : endM l (x, (e : Int), 0, 0) = (x, (e : Int), 0, 0) := by
  unfold endM
  rw [if_neg]
  rintro ⟨-, a | a⟩
  · dsimp only at a; omega
  · dsimp only at a
    rw [Int.toNat_natCast] at a
    exact a h2
theorem end_b (l : List UInt8) (x : PS) (e : Nat) (h : e = l.length ∨ l.getD e 0 ≠ 93) : endM l (x, (e : Int), 0, 0) = errS e 4 := by
  unfold endM
  rw [if_pos]
  refine ⟨rfl, ?_⟩
  rcases h with h | h
  · left; dsimp only; omega
  · right; dsimp only; rw [Int.toNat_natCast]; exact h
/-- What step hands back. -/
def stepO (r : Said) : Value := .tuple #[.agg #[strV r.1.1, .int .i64 r.1.2.1, .bool r.1.2.2], .int .i64 (if r.2.2.2 = 0 then r.2.1 + 1 else 0), .int .i64 r.2.2.1, .int .i64 r.2.2.2]
set_option maxHeartbeats 16000000 in
set_option maxRecDepth 100000 in
theorem rstep_any (l : List UInt8) (i : Nat) (w : World) (hl : l.length ≤ 1073741824) (hi : i < l.length) :
    Calls Tryz.prog 53 #[strV l, .int .i64 i] w fun e w' => e = .returned (stepO (endM l (oneM l i 0))) ∧ Below w.heap.size w w' := by
  have hs : (⟨l.toArray⟩ : ByteArray).size = l.length := by simp [ByteArray.size]
  have HX := Lib.hid (str_idx l)
  obtain ⟨n, hn⟩ : ∃ n, n = l.length := ⟨_, rfl⟩
  have HN := Lib.hid hn
  obtain ⟨j, hj⟩ : ∃ j, j = i + 1 := ⟨_, rfl⟩
  have HJ := Lib.hid hj
  have hx0 := HX.out i hi
  rw [← hn] at hl hi hs
  have q1 : IntKind.i64.wrap ((i : Int) + 1) = (j : Int) := by rw [IntWalk.i64_in _ (by omega)]; omega
  have HJN := Lib.hid (show j ≤ n by omega)
  clear hn hj
  unfold strV
  go_enter Tryz.func53, Tryz.ntmps53
  go_upto_region 1 with fail
  refine wp_named (fun wn => Below w.heap.size w wn ∧ wn.heap[w.heap.size]? = some (.cells #[.string ⟨#[]⟩, .int .i64 0, .bool false] 50 (0, 0))) ⟨(Below.refl _ w).alloc (Nat.le_refl _) _, heap_alloc_new _ _⟩ ?_
  rintro wn ⟨hbn, hrn⟩
  have HRN := Lib.hid hrn
  by_cases h0 : l.getD i 0 = 91
  · have HO := Lib.hid h0
    have m0 : ((l.getD i 0).toNat : Int) = 91 := by rw [h0]; rfl
    rw [m0] at hx0
    clear m0 h0
    have HBN := Lib.hid hbn
    clear hbn hrn
    go_upto_region 5 with fail
    refine wp_named (fun wx => Below wn.heap.size wn wx ∧ wx.heap[wn.heap.size]? = some (.cells #[.string ⟨#[]⟩, .int .i64 0, .bool false] 50 (0, 0))) ⟨(Below.refl _ wn).alloc (Nat.le_refl _) _, heap_alloc_new _ _⟩ ?_
    rintro wm ⟨hbm, hr8⟩
    have HP8 := Lib.hid (row_lt HRN.out)
    have HR4 := Lib.hid (below_row HRN.out hbm)
    have HBW := Lib.hid (HBN.out.trans (hbm.mono HBN.out.size))
    have HR8 := Lib.hid hr8
    have hp8 : w.heap.size < wn.heap.size := HP8.out
    generalize wn.heap.size = P8 at HP8 HR8 hp8 ⊢
    clear hbm hr8 HRN HBN hx0
    by_cases h1 : j < n
    · have h1' : (j : Int) < (n : Int) := by omega
      have hx1 := HX.out j (by have := HN.out; omega)
      cases hdj : digB (l.getD j 0)
      case true =>
        have HDJ := Lib.hid hdj
        unfold digB at hdj
        simp only [Bool.and_eq_true, decide_eq_true_eq] at hdj
        obtain ⟨a1, a2⟩ := hdj
        have b1 : (48 : Int) ≤ ((l.getD j 0).toNat : Int) := by omega
        have b2 : ((l.getD j 0).toNat : Int) ≤ 57 := by omega
        clear a1 a2
        obtain ⟨cj, hcj⟩ : ∃ c, c = l.getD j 0 := ⟨_, rfl⟩
        rw [← hcj] at hx1 b1 b2
        clear hcj
        by_cases hbad : (l.getD j 0 = 48 ∧ 1 < digs (l.drop j)) ∨ 9 < digs (l.drop j)
        · have hpm : placeM l j = (([], 0, false), 0, (j : Int), 4) := if_pos hbad
          have HC := Lib.hid (rplace_any l j wm (by have := HN.out; omega) (by have := HN.out; omega) HDJ.out)
          rw [hpm] at HC
          have HM := Lib.hid (show endM l (oneM l i 0) = errS j 4 from (one_b l i HO.out (by have := HN.out; have := HJ.out; omega) (by rw [← HJ.out]; exact HDJ.out)).trans (by rw [← HJ.out, hpm]; exact endM_err (show (4 : Int) ≠ 0 by decide)))
          unfold placeV strV at HC
          clear hpm hbad
          go_wp2_with fail
          refine HC.out.mono ?_
          rintro e w1 ⟨rfl, hb1⟩
          go_upto_region 9 with fail
          refine wp_named (fun wx => Below w1.heap.size w1 wx) ((Below.refl _ w1).alloc (Nat.le_refl _) _) ?_
          rintro wq hbq
          have hbm := hb1.trans (hbq.mono hb1.size)
          have HBQ := Lib.hid (HBW.out.trans (hbm.mono HBW.out.size))
          have hr4 := below_row HR4.out hbm
          obtain ⟨z0, z1, z2⟩ := at3 hr4
          have g0 := frozen_of_row _ _ 0 _ _ hr4
          have g1 := frozen_of_row _ _ 1 _ _ hr4
          have g2 := frozen_of_row _ _ 2 _ _ hr4
          have gz := row_lt hr4
          clear hr4
          clear hb1 hbq hbm HC
          go_wp2_with fail
          (refine bodyPost_ret (v := .tuple #[.agg #[.string ⟨#[]⟩, .int .i64 0, .bool false], .int .i64 0, .int .i64 j, .int .i64 4]) (by simp [results, Tryz.results53, go_sem, *]) rfl ?_)
          exact ⟨by rw [HM.out]; rfl, below_three HBQ.out (by omega) _ _ _⟩
        · obtain ⟨vv, hvv⟩ : ∃ vv : Nat, vv = valU ((l.drop j).take (digs (l.drop j))) := ⟨_, rfl⟩
          obtain ⟨e, he⟩ : ∃ e, e = j + digs (l.drop j) := ⟨_, rfl⟩
          have hpm : placeM l j = (([], (vv : Int), false), (e : Int), 0, 0) := by rw [hvv, he]; exact if_neg hbad
          have HEL := Lib.hid (show e ≤ l.length by have := digs_le l j; have := HN.out; omega)
          have HC := Lib.hid (rplace_any l j wm (by have := HN.out; omega) (by have := HN.out; omega) HDJ.out)
          rw [hpm] at HC
          have HMM := Lib.hid ((one_b l i HO.out (by have := HN.out; have := HJ.out; omega) (by rw [← HJ.out]; exact HDJ.out)).trans (by rw [← HJ.out, hpm]))
          unfold placeV strV at HC
          clear hpm hbad hvv he
          go_wp2_with fail
          refine HC.out.mono ?_
          rintro e' w1 ⟨rfl, hb1⟩
          go_upto_region 9 with fail
          refine wp_named (fun wx => Below w1.heap.size w1 wx ∧ wx.heap[w1.heap.size]? = some (.cells #[.string ⟨#[]⟩, .int .i64 vv, .bool false] 50 (0, 0))) ⟨(Below.refl _ w1).alloc (Nat.le_refl _) _, heap_alloc_new _ _⟩ ?_
          rintro wp ⟨hbq, h10⟩
          have hbm := hb1.trans (hbq.mono hb1.size)
          have hP10 : P8 < w1.heap.size := Nat.lt_of_lt_of_le (row_lt HR8.out) hb1.size
          have h8 := below_row HR8.out hbm
          obtain ⟨x0, x1, x2⟩ := at3 h10
          obtain ⟨y0, y1, y2⟩ := at3 h8
          have f0 := frozen_of_row _ _ 0 _ _ h8
          have f1 := frozen_of_row _ _ 1 _ _ h8
          have f2 := frozen_of_row _ _ 2 _ _ h8
          have HH8 := Lib.hid h8
          have HBP := Lib.hid hbm
          generalize w1.heap.size = P10 at h10 hP10 x0 x1 x2 ⊢
          clear h8 h10 hb1 hbq hbm HC
          go_upto_region 12 with fail
          refine wp_named (fun wx => Below P8 wp wx ∧ wx.heap[P8]? = some (.cells #[.string ⟨#[]⟩, .int .i64 vv, .bool false] 50 (0, 0))) ⟨below_three (Below.refl _ _) (Nat.le_refl _) _ _ _, row3_set HH8.out _ _ _⟩ ?_
          rintro wq ⟨hbq, h8⟩
          have HBM := Lib.hid (show Below P8 wm wq from (HBP.out.mono (Nat.le_of_lt (row_lt HR8.out))).trans hbq)
          have HBQ := Lib.hid (HBW.out.trans (HBM.out.mono (Nat.le_of_lt HP8.out)))
          clear hbq x0 x1 x2 y0 y1 y2 f0 f1 f2 HH8 HBP
          have q9 : IntKind.i64.wrap ((e : Int) + 1) = (e : Int) + 1 := IntWalk.i64_in _ (by have := HEL.out; have := HN.out; omega)
          obtain ⟨y0, y1, y2⟩ := at3 h8
          have hr4 := (HBM.out.block _ HP8.out).trans HR4.out
          obtain ⟨z0, z1, z2⟩ := at3 hr4
          have g0 := frozen_of_row _ _ 0 _ _ hr4
          have g1 := frozen_of_row _ _ 1 _ _ hr4
          have g2 := frozen_of_row _ _ 2 _ _ hr4
          have gz := row_lt hr4
          clear hr4 h8
          by_cases h1 : e < n
          · have h1' : ¬ (n : Int) ≤ (e : Int) := by omega
            have hx9 := HX.out e (by have := HN.out; omega)
            by_cases h2 : l.getD e 0 = 93
            · have m9 : ((l.getD e 0).toNat : Int) = 93 := by rw [h2]; rfl
              rw [m9] at hx9
              have HM := Lib.hid (HMM.out.trans (end_a l ([], (vv : Int), false) e (by have := HN.out; omega) h2))
              clear m9 h2
              go_wp2_with fail
              (refine bodyPost_ret (v := .tuple #[.agg #[.string ⟨#[]⟩, .int .i64 vv, .bool false], .int .i64 ((e : Int) + 1), .int .i64 0, .int .i64 0]) (by simp [results, Tryz.results53, go_sem, *]) rfl ?_)
              exact ⟨by rw [HM.out]; rfl, below_three HBQ.out (by omega) _ _ _⟩
            · have m9 : (((l.getD e 0).toNat : Int) != 93) = true := by
                simp only [bne_iff_ne, ne_eq]
                intro h
                refine h2 (UInt8.toNat_inj.1 ?_)
                show (l.getD e 0).toNat = 93
                omega
              have HM := Lib.hid (HMM.out.trans (end_b l ([], (vv : Int), false) e (.inr h2)))
              generalize l.getD e 0 = c9 at hx9 m9
              clear h2
              go_wp2_with fail
              (refine bodyPost_ret (v := .tuple #[.agg #[.string ⟨#[]⟩, .int .i64 0, .bool false], .int .i64 0, .int .i64 e, .int .i64 4]) (by simp [results, Tryz.results53, go_sem, *]) rfl ?_)
              exact ⟨by rw [HM.out]; rfl, below_three HBQ.out (by omega) _ _ _⟩
          · have h1' : (n : Int) ≤ (e : Int) := by omega
            have HM := Lib.hid (HMM.out.trans (end_b l ([], (vv : Int), false) e (.inl (by have := HEL.out; have := HN.out; omega))))
            go_wp2_with fail
            (refine bodyPost_ret (v := .tuple #[.agg #[.string ⟨#[]⟩, .int .i64 0, .bool false], .int .i64 0, .int .i64 e, .int .i64 4]) (by simp [results, Tryz.results53, go_sem, *]) rfl ?_)
            exact ⟨by rw [HM.out]; rfl, below_three HBQ.out (by omega) _ _ _⟩
      case false =>
        have HNDJ := Lib.hid hdj
        have hdd : ¬ (48 : Int) ≤ ((l.getD j 0).toNat : Int) ∨ ((48 : Int) ≤ ((l.getD j 0).toNat : Int) ∧ ¬ ((l.getD j 0).toNat : Int) ≤ 57) := by
          unfold digB at hdj
          by_cases a1 : 48 ≤ (l.getD j 0).toNat
          · by_cases a2 : (l.getD j 0).toNat ≤ 57
            · rw [decide_eq_true a1, decide_eq_true a2] at hdj
              cases hdj
            · exact .inr ⟨by omega, by omega⟩
          · exact .inl (by omega)
        clear hdj
        by_cases hq : l.getD j 0 = 34
        · have HQJ := Lib.hid hq
          have m1 : ((l.getD j 0).toNat : Int) = 34 := by rw [hq]; rfl
          rw [m1] at hx1
          have b1 : ¬ (48 : Int) ≤ 34 := by omega
          clear hdd m1 hq
          have hsl := sub_from l j (by have := HN.out; omega)
          have hub := unq_bd (l.drop j)
          have HLD := Lib.hid (show (l.drop j).length + j = n by rw [List.length_drop]; have := HN.out; omega)
          have HC := Lib.hid (runq_any (l.drop j) wm (by have := HLD.out; omega))
          rw [rUnq_eq] at HC
          have HMN := Lib.hid ((one_c l i HO.out (by have := HN.out; have := HJ.out; omega) (by rw [← HJ.out]; exact HNDJ.out) (by rw [← HJ.out]; exact HQJ.out)).trans (by rw [← HJ.out]))
          unfold nameM at HMN
          have HTL := Lib.hid (unq_short (l.drop j))
          generalize unqM (l.drop j) = un at *
          obtain ⟨tx, en, pl, er⟩ := un
          dsimp only at HMN hub HTL
          unfold urV strV at HC
          dsimp only at HC
          generalize hxx : l.drop j = x at *
          by_cases he : er = 0
          · subst he
            have hub2 : 1 ≤ en ∧ en ≤ x.length := by omega
            have HZR := Lib.hid (fun V => rzero_any tx V (by have := HTL.out rfl; have := HLD.out; omega))
            unfold strV at HZR
            obtain ⟨e, hee⟩ : ∃ e : Nat, (e : Int) = (j : Int) + en := ⟨((j : Int) + en).toNat, by omega⟩
            have q5 : IntKind.i64.wrap ((j : Int) + en) = (e : Int) := by rw [IntWalk.i64_in _ (by have := HLD.out; omega)]; omega
            have HEL := Lib.hid (show e ≤ l.length by have := HN.out; have := HLD.out; omega)
            clear hub
            by_cases hk : keyE tx = 0
            · have hd : decide (keyE tx ≠ 0) = false := decide_eq_false (fun h => h hk)
              rw [hd] at HZR
              have HMM := Lib.hid (HMN.out.trans (show endM l (if (0 : Int) ≠ 0 then (([], 0, false), 0, (j : Int) + pl, 0) else if keyE tx ≠ 0 then (([], 0, false), 0, (j : Int), 70) else ((tx, 0, true), (j : Int) + en, 0, 0)) = endM l ((tx, 0, true), (e : Int), 0, 0) by rw [if_neg (by decide), if_neg (by rw [hk]; decide), hee]))
              clear hd hk hee hub2 HMN
              go_wp2_with fail
              refine HC.out.mono ?_
              rintro e' w1 ⟨rfl, hb1⟩
              have HB1 := Lib.hid hb1
              clear hb1 hsl
              go_wp2_with fail
              refine (HZR.out w1).mono ?_
              rintro e' w2 ⟨rfl, rfl⟩
              have h8 := below_row HR8.out HB1.out
              obtain ⟨y0, y1, y2⟩ := at3 h8
              have f0 := frozen_of_row _ _ 0 _ _ h8
              have f1 := frozen_of_row _ _ 1 _ _ h8
              have f2 := frozen_of_row _ _ 2 _ _ h8
              have HH8 := Lib.hid h8
              clear h8
              go_upto_region 20 with fail
              refine wp_named (fun wx => Below P8 w2 wx ∧ wx.heap[P8]? = some (.cells #[.string ⟨tx.toArray⟩, .int .i64 0, .bool true] 50 (0, 0))) ⟨below_three (Below.refl _ _) (Nat.le_refl _) _ _ _, row3_set HH8.out _ _ _⟩ ?_
              rintro wq ⟨hbq, h8⟩
              have HBM := Lib.hid (show Below P8 wm wq from (HB1.out.mono (Nat.le_of_lt (row_lt HR8.out))).trans hbq)
              have HBQ := Lib.hid (HBW.out.trans (HBM.out.mono (Nat.le_of_lt HP8.out)))
              clear hbq y0 y1 y2 f0 f1 f2 HH8 HC HZR
              have q9 : IntKind.i64.wrap ((e : Int) + 1) = (e : Int) + 1 := IntWalk.i64_in _ (by have := HEL.out; have := HN.out; omega)
              obtain ⟨y0, y1, y2⟩ := at3 h8
              have hr4 := (HBM.out.block _ HP8.out).trans HR4.out
              obtain ⟨z0, z1, z2⟩ := at3 hr4
              have g0 := frozen_of_row _ _ 0 _ _ hr4
              have g1 := frozen_of_row _ _ 1 _ _ hr4
              have g2 := frozen_of_row _ _ 2 _ _ hr4
              have gz := row_lt hr4
              clear hr4 h8
              by_cases h1 : e < n
              · have h1' : ¬ (n : Int) ≤ (e : Int) := by omega
                have hx9 := HX.out e (by have := HN.out; omega)
                by_cases h2 : l.getD e 0 = 93
                · have m9 : ((l.getD e 0).toNat : Int) = 93 := by rw [h2]; rfl
                  rw [m9] at hx9
                  have HM := Lib.hid (HMM.out.trans (end_a l (tx, 0, true) e (by have := HN.out; omega) h2))
                  clear m9 h2
                  go_wp2_with fail
                  (refine bodyPost_ret (v := .tuple #[.agg #[.string ⟨tx.toArray⟩, .int .i64 0, .bool true], .int .i64 ((e : Int) + 1), .int .i64 0, .int .i64 0]) (by simp [results, Tryz.results53, go_sem, *]) rfl ?_)
                  exact ⟨by rw [HM.out]; rfl, below_three HBQ.out (by omega) _ _ _⟩
                · have m9 : (((l.getD e 0).toNat : Int) != 93) = true := by
                    simp only [bne_iff_ne, ne_eq]
                    intro h
                    refine h2 (UInt8.toNat_inj.1 ?_)
                    show (l.getD e 0).toNat = 93
                    omega
                  have HM := Lib.hid (HMM.out.trans (end_b l (tx, 0, true) e (.inr h2)))
                  generalize l.getD e 0 = c9 at hx9 m9
                  clear h2
                  go_wp2_with fail
                  (refine bodyPost_ret (v := .tuple #[.agg #[.string ⟨#[]⟩, .int .i64 0, .bool false], .int .i64 0, .int .i64 e, .int .i64 4]) (by simp [results, Tryz.results53, go_sem, *]) rfl ?_)
                  exact ⟨by rw [HM.out]; rfl, below_three HBQ.out (by omega) _ _ _⟩
              · have h1' : (n : Int) ≤ (e : Int) := by omega
                have HM := Lib.hid (HMM.out.trans (end_b l (tx, 0, true) e (.inl (by have := HEL.out; have := HN.out; omega))))
                go_wp2_with fail
                (refine bodyPost_ret (v := .tuple #[.agg #[.string ⟨#[]⟩, .int .i64 0, .bool false], .int .i64 0, .int .i64 e, .int .i64 4]) (by simp [results, Tryz.results53, go_sem, *]) rfl ?_)
                exact ⟨by rw [HM.out]; rfl, below_three HBQ.out (by omega) _ _ _⟩
            · have hd : decide (keyE tx ≠ 0) = true := decide_eq_true hk
              rw [hd] at HZR
              have HM := Lib.hid (HMN.out.trans (show endM l (if (0 : Int) ≠ 0 then (([], 0, false), 0, (j : Int) + pl, 0) else if keyE tx ≠ 0 then (([], 0, false), 0, (j : Int), 70) else ((tx, 0, true), (j : Int) + en, 0, 0)) = errS j 70 by rw [if_neg (by decide), if_pos hk]; exact endM_err (show (70 : Int) ≠ 0 by decide)))
              clear hd hk hee hub2 HMN
              go_wp2_with fail
              refine HC.out.mono ?_
              rintro e' w1 ⟨rfl, hb1⟩
              have HB1 := Lib.hid hb1
              clear hb1 hsl
              go_wp2_with fail
              refine (HZR.out w1).mono ?_
              rintro e' w2 ⟨rfl, rfl⟩
              have HBQ := Lib.hid (HBW.out.trans (HB1.out.mono HBW.out.size))
              have hr4 := below_row HR4.out HB1.out
              obtain ⟨z0, z1, z2⟩ := at3 hr4
              have g0 := frozen_of_row _ _ 0 _ _ hr4
              have g1 := frozen_of_row _ _ 1 _ _ hr4
              have g2 := frozen_of_row _ _ 2 _ _ hr4
              have gz := row_lt hr4
              clear hr4
              go_wp2_with fail
              (refine bodyPost_ret (v := .tuple #[.agg #[.string ⟨#[]⟩, .int .i64 0, .bool false], .int .i64 0, .int .i64 j, .int .i64 70]) (by simp [results, Tryz.results53, go_sem, *]) rfl ?_)
              exact ⟨by rw [HM.out]; rfl, below_three HBQ.out (by omega) _ _ _⟩
          · have hub2 : 0 ≤ pl ∧ pl ≤ x.length := by omega
            have q5 : IntKind.i64.wrap ((j : Int) + pl) = (j : Int) + pl := IntWalk.i64_in _ (by have := HLD.out; omega)
            have m5 : (er != 0) = true := by simpa using he
            have HM := Lib.hid (HMN.out.trans (show endM l (if er ≠ 0 then (([], 0, false), 0, (j : Int) + pl, er) else if keyE tx ≠ 0 then (([], 0, false), 0, (j : Int), 70) else ((tx, 0, true), (j : Int) + en, 0, 0)) = errS ((j : Int) + pl) er by rw [if_pos he]; exact endM_err he))
            have HSO := Lib.hid (show stepO (errS ((j : Int) + pl) er) = .tuple #[.agg #[.string ⟨#[]⟩, .int .i64 0, .bool false], .int .i64 0, .int .i64 ((j : Int) + pl), .int .i64 er] by unfold stepO; rw [show (errS ((j : Int) + pl) er).2.2.2 = er from rfl, if_neg he]; rfl)
            clear hub hub2 he HMN
            go_wp2_with fail
            refine HC.out.mono ?_
            rintro e' w1 ⟨rfl, hb1⟩
            have HB1 := Lib.hid hb1
            have HBQ := Lib.hid (HBW.out.trans (HB1.out.mono HBW.out.size))
            have hr4 := below_row HR4.out HB1.out
            obtain ⟨z0, z1, z2⟩ := at3 hr4
            have g0 := frozen_of_row _ _ 0 _ _ hr4
            have g1 := frozen_of_row _ _ 1 _ _ hr4
            have g2 := frozen_of_row _ _ 2 _ _ hr4
            have gz := row_lt hr4
            clear hr4
            clear hb1 hsl
            go_wp2_with fail
            (refine bodyPost_ret (v := .tuple #[.agg #[.string ⟨#[]⟩, .int .i64 0, .bool false], .int .i64 0, .int .i64 ((j : Int) + pl), .int .i64 er]) (by simp [results, Tryz.results53, go_sem, *]) rfl ?_)
            exact ⟨by rw [HM.out, HSO.out], below_three HBQ.out (by omega) _ _ _⟩
        · have m1 : (((l.getD j 0).toNat : Int) == 34) = false := by
            rw [beq_eq_false_iff_ne]
            intro h
            refine hq (UInt8.toNat_inj.1 ?_)
            show (l.getD j 0).toNat = 34
            omega
          have HM := Lib.hid ((one_d l i HO.out (by rw [← HJ.out, HNDJ.out]; simp) (by rw [← HJ.out]; exact fun h => hq h.2)).trans (by rw [← HJ.out]))
          clear hq
          generalize l.getD j 0 = cj at hx1 m1 hdd
          rcases hdd with b1 | ⟨b1, b2⟩
          · have HBQ := Lib.hid HBW.out
            have hr4 := below_row HR4.out (Below.refl _ _)
            obtain ⟨z0, z1, z2⟩ := at3 hr4
            have g0 := frozen_of_row _ _ 0 _ _ hr4
            have g1 := frozen_of_row _ _ 1 _ _ hr4
            have g2 := frozen_of_row _ _ 2 _ _ hr4
            have gz := row_lt hr4
            clear hr4
            go_wp2_with fail
            (refine bodyPost_ret (v := .tuple #[.agg #[.string ⟨#[]⟩, .int .i64 0, .bool false], .int .i64 0, .int .i64 j, .int .i64 4]) (by simp [results, Tryz.results53, go_sem, *]) rfl ?_)
            exact ⟨by rw [HM.out]; rfl, below_three HBQ.out (by omega) _ _ _⟩
          · have HBQ := Lib.hid HBW.out
            have hr4 := below_row HR4.out (Below.refl _ _)
            obtain ⟨z0, z1, z2⟩ := at3 hr4
            have g0 := frozen_of_row _ _ 0 _ _ hr4
            have g1 := frozen_of_row _ _ 1 _ _ hr4
            have g2 := frozen_of_row _ _ 2 _ _ hr4
            have gz := row_lt hr4
            clear hr4
            go_wp2_with fail
            (refine bodyPost_ret (v := .tuple #[.agg #[.string ⟨#[]⟩, .int .i64 0, .bool false], .int .i64 0, .int .i64 j, .int .i64 4]) (by simp [results, Tryz.results53, go_sem, *]) rfl ?_)
            exact ⟨by rw [HM.out]; rfl, below_three HBQ.out (by omega) _ _ _⟩
    · have h1' : ¬ (j : Int) < (n : Int) := by omega
      have HM := Lib.hid ((one_d l i HO.out (by have := HJ.out; have := HN.out; omega) (by have := HJ.out; have := HN.out; omega)).trans (by rw [← HJ.out]))
      have HBQ := Lib.hid HBW.out
      have hr4 := below_row HR4.out (Below.refl _ _)
      obtain ⟨z0, z1, z2⟩ := at3 hr4
      have g0 := frozen_of_row _ _ 0 _ _ hr4
      have g1 := frozen_of_row _ _ 1 _ _ hr4
      have g2 := frozen_of_row _ _ 2 _ _ hr4
      have gz := row_lt hr4
      clear hr4
      go_wp2_with fail
      (refine bodyPost_ret (v := .tuple #[.agg #[.string ⟨#[]⟩, .int .i64 0, .bool false], .int .i64 0, .int .i64 j, .int .i64 4]) (by simp [results, Tryz.results53, go_sem, *]) rfl ?_)
      exact ⟨by rw [HM.out]; rfl, below_three HBQ.out (by omega) _ _ _⟩
  · have m0 : (((l.getD i 0).toNat : Int) != 91) = true := by
      simp only [bne_iff_ne, ne_eq]
      intro h
      refine h0 (UInt8.toNat_inj.1 ?_)
      show (l.getD i 0).toNat = 91
      omega
    have HM := Lib.hid (one_a l i h0)
    generalize l.getD i 0 = c0 at hx0 m0
    clear h0
    have HBQ := Lib.hid hbn
    obtain ⟨z0, z1, z2⟩ := at3 hrn
    have g0 := frozen_of_row _ _ 0 _ _ hrn
    have g1 := frozen_of_row _ _ 1 _ _ hrn
    have g2 := frozen_of_row _ _ 2 _ _ hrn
    have gz := row_lt hrn
    clear hrn hbn
    go_wp2_with fail
    (refine bodyPost_ret (v := .tuple #[.agg #[.string ⟨#[]⟩, .int .i64 0, .bool false], .int .i64 0, .int .i64 i, .int .i64 4]) (by simp [results, Tryz.results53, go_sem, *]) rfl ?_)
    exact ⟨by rw [HM.out]; rfl, below_three HBQ.out (by omega) _ _ _⟩
end Go.Proofs.YtlblddeemkefkaaGreatDoor
