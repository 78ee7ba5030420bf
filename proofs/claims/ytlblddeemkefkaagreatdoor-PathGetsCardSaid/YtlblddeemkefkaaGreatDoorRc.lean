/- The walk of the reference's Get: written by wip/gen/ra.py. -/
import Derived.Test.YtlblddeemkefkaaGreatDoorRa
namespace Go.Proofs.YtlblddeemkefkaaGreatDoor
set_option linter.unusedVariables false
set_option linter.unusedSimpArgs false
section
open Go.RowKit
def rg4 (P2 : Nat) (kda nna uua : Int) (sa : ByteArray) (Aa : Option Addr) (ma ca : Nat) (Ba : Option Addr) (na da : Nat) (gs os n c k : Nat) (key : List UInt8) (at_ : Int) (by_ : Bool) (ld : Int) : Posts := fun b t v w => match t with
  | 1 => v = .slice (some ⟨gs, os, none⟩) n c
  | 2 => v = .pointer (some ⟨P2, 0, none⟩)
  | 6 => v = .int .i64 (k : Nat)
  | 14 => v = .agg #[.int .i64 kda, .int .i64 nna, .int .u64 uua, .string sa, .slice Aa ma ca, .slice Ba na da]
  | 15 => v = .slice (some ⟨gs, os, none⟩) n c
  | 16 => v = .int .i64 (k : Nat)
  | 17 => v = .pointer (some ⟨gs, os + k * 3, none⟩)
  | 18 => v = .agg #[.string ⟨key.toArray⟩, .int .i64 at_, .bool by_]
  | 19 => v = .int .i64 ld
  | 7 => v = .int .i64 ld
  | _ => True
theorem rg4_st (P2 : Nat) (kda nna uua : Int) (sa : ByteArray) (Aa : Option Addr) (ma ca : Nat) (Ba : Option Addr) (na da : Nat) (gs os n c k : Nat) (key : List UInt8) (at_ : Int) (by_ : Bool) (ld : Int) : ∀ (b : Nat) (t : Tmp) (v : Value) (w w' : World), ExtB b w w' → rg4 P2 kda nna uua sa Aa ma ca Ba na da gs os n c k key at_ by_ ld b t v w → rg4 P2 kda nna uua sa Aa ma ca Ba na da gs os n c k key at_ by_ ld b t v w' := by
  intro b t v w w' hE
  unfold rg4
  split
  · exact id
  · exact id
  · exact id
  · exact id
  · exact id
  · exact id
  · exact id
  · exact id
  · exact id
  · exact id
  · exact id
set_option maxRecDepth 100000 in
set_option maxHeartbeats 8000000 in
theorem rget_any (T : DT) (p : List PS) (W0 : World) (x0 x1 x2 x3 x4 x5 : Value) (A : Option Addr) (c : Nat) (hx : RRep W0 T [x0, x1, x2, x3, x4, x5]) (hsm : SmallD T) (hp : StepRd W0 (.slice A p.length c) p) :
    Calls Tryz.prog 23 #[.agg #[x0, x1, x2, x3, x4, x5], .slice A p.length c] W0 fun e w' => NodeErr W0.heap.size (getR T p) e w' ∧ Below W0.heap.size W0 w' := by
  obtain ⟨kd, nn, u, s, A1, m1, c1, A2, m2, c2, hcs⟩ := hx.cs6
  simp only [List.cons.injEq, and_true] at hcs
  obtain ⟨rfl, rfl, rfl, rfl, rfl, rfl⟩ := hcs
  have HP := Lib.hid hp
  have hbd := Rd.bound hp
  obtain ⟨n, hn⟩ : ∃ n, n = p.length := ⟨_, rfl⟩
  rw [← hn] at hbd ⊢
  have HN := Lib.hid hn
  have HX0 := Lib.hid (And.intro hx hsm)
  clear hx hsm hp hn
  go_enter Tryz.func23, Tryz.ntmps23
  go_upto_region 1 with fail
  refine wp_named (fun wn => Below W0.heap.size W0 wn ∧ W0.heap.size + 1 < wn.heap.size ∧ wn.heap[W0.heap.size]? = some (.cells #[.int .i64 kd, .int .i64 nn, .int .u64 u, .string s, .slice A1 m1 c1, .slice A2 m2 c2] 38 (0, 0)) ∧ wn.heap[W0.heap.size + 1]? = some (.cells #[.int .i64 0, .int .i64 0, .int .u64 0, .string ⟨#[]⟩, .slice none 0 0, .slice none 0 0] 38 (0, 0))) ⟨by exact zw, by simp, ?_, ?_⟩ ?_
  · exact (Below.heap_alloc _ _ _ (by simp)).trans (heap_alloc_new _ _)
  · have := heap_alloc_new (W0.alloc (.cells #[.int .i64 kd, .int .i64 nn, .int .u64 u, .string s, .slice A1 m1 c1, .slice A2 m2 c2] 38)) (.cells #[.int .i64 0, .int .i64 0, .int .u64 0, .string ⟨#[]⟩, .slice none 0 0, .slice none 0 0] 38)
    rw [World.size_alloc] at this
    exact this
  rintro wn ⟨hbn, hzn, hXn, hYn⟩
  have HBn := Lib.hid hbn
  have HXn := Lib.hid hXn
  have HYn := Lib.hid hYn
  clear hbn hXn hYn
  go_wp2_with fail
  go_loopw [6] (fun i wr => ∃ (k : Nat) (T' : DT) (kd nn u : Int) (s : ByteArray) (A1 : Option Addr) (m1 c1 : Nat) (A2 : Option Addr) (m2 c2 : Nat), k ≤ n ∧ i = .int .i64 k ∧ Hid (getD T p = getD T' (p.drop k)) ∧ Hid (RRep W0 T' [.int .i64 kd, .int .i64 nn, .int .u64 u, .string s, .slice A1 m1 c1, .slice A2 m2 c2] ∧ SmallD T') ∧ W0.heap.size + 1 < wr.heap.size ∧ wr.heap[W0.heap.size]? = some (.cells #[.int .i64 kd, .int .i64 nn, .int .u64 u, .string s, .slice A1 m1 c1, .slice A2 m2 c2] 38 (0, 0)) ∧ wr.heap[W0.heap.size + 1]? = some (.cells #[.int .i64 0, .int .i64 0, .int .u64 0, .string ⟨#[]⟩, .slice none 0 0, .slice none 0 0] 38 (0, 0)) ∧ Below W0.heap.size W0 wr) (fun i _ => n - (intOf i).toNat)
  case atStart => exact ⟨0, T, _, _, _, _, _, _, _, _, _, _, by omega, rfl, Lib.hid rfl, HX0, hzn, HXn.out, HYn.out, HBn.out⟩
  case round =>
    rename_i wr
    clear HX0 HXn HYn HBn
    obtain ⟨k, T', kd', nn', u', s', A1', m1', c1', A2', m2', c2', hk, rfl, hG, hR, hzr, hXr, hYr, hbr⟩ := hrel
    obtain ⟨z0, z1, z2, z3, z4, z5⟩ := cells6 hXr
    have gX : W0.heap.size < wr.heap.size := by omega
    have HX := Lib.hid hXr
    have HY := Lib.hid hYr
    have HB := Lib.hid hbr
    by_cases h1 : k < n
    · have h1' : (k : Int) < (n : Int) := by omega
      have hkl : k < p.length := by rw [← HN.out]; exact h1
      have hSt : StepRd W0 (.slice A n c) p := by
        have := HP.out
        have e := HN.out
        rw [← e] at this
        exact this
      obtain ⟨gs, os, rfl, hblt, hblr, s0, s1, s2⟩ := hSt.at_ hbr k hkl
      have hG2 := hG.out
      rw [List.drop_eq_getElem_cons hkl, getD] at hG2
      generalize p[k] = st at *
      obtain ⟨key, at_, by_⟩ := st
      dsimp only at s0 s1 s2
      obtain ⟨akd, ann, au, ast, aks, al⟩ := T'
      obtain ⟨A1, c1, A2, c2, xs, hcs, hk1, hl1, hkids⟩ := hR.out.1.form
      simp only [List.cons.injEq, and_true] at hcs
      obtain ⟨he0, he1, he2, he3, he4, he5⟩ := hcs
      injection he5 with f1 f2 f3
      subst f1 f2 f3
      have HLD := Lib.hid (fun (V : World) (hV : Below W0.heap.size W0 V) => rleads_any akd ann au ast aks al key at_ by_ V _ _ _ _ _ _ (RRep.below hV _ _ hR.out.1))
      unfold strV at HLD
      have hlb := leadsD_bd (.mk akd ann au ast aks al) (key, at_, by_)
      generalize hld : leadsD (.mk akd ann au ast aks al) (key, at_, by_) = ld at *
      have HSM := Lib.hid hR.out.2
      have HKD := Lib.hid (And.intro hkids hl1)
      clear he0 he1 he2 he3 he4
      go_upto_region 4 with fail
      refine wp_region_eachP (n := 30) [14, 15, 16, 17, 18, 19, 7] (rg4 W0.heap.size kd' nn' u' s' A1' m1' c1' A2' al.length c2' gs os n c k key at_ by_ ld) (by kernel_rfl) (by kernel_rfl) rfl (by kernel_rfl) (rg4_st W0.heap.size kd' nn' u' s' A1' m1' c1' A2' al.length c2' gs os n c k key at_ by_ ld) ?_ ?_ ?_
      · intro b hb t ht
        unfold rg4
        split
        · rfl
        · rfl
        · rfl
        · exact absurd rfl (ht 0 _ rfl)
        · exact absurd rfl (ht 1 _ rfl)
        · exact absurd rfl (ht 2 _ rfl)
        · exact absurd rfl (ht 3 _ rfl)
        · exact absurd rfl (ht 4 _ rfl)
        · exact absurd rfl (ht 5 _ rfl)
        · exact absurd rfl (ht 6 _ rfl)
        · trivial
      · intro jq oq hjq
        match jq, hjq with
        | 0, hjq =>
          simp only [List.getElem?_toArray, List.getElem?_cons_zero, List.getElem?_cons_succ, Option.some.injEq] at hjq
          subst hjq
          intro B a w hB hb hk
          obtain ⟨b0, hb0⟩ := hB
          have e2 : a.eval (.tmp 2) = .pointer (some ⟨W0.heap.size, 0, none⟩) := hk b0 hb0 2 (by decide)
          refine ⟨rfl, opwp_load6 rfl e2 (below_row hXr hb) ?_⟩
          exact ⟨Below.refl _ _, _, rfl, fun d hd b _ _ => by cases hd; rfl⟩
        | 1, hjq =>
          simp only [List.getElem?_toArray, List.getElem?_cons_zero, List.getElem?_cons_succ, Option.some.injEq] at hjq
          subst hjq
          intro B a w hB hb hk
          obtain ⟨b0, hb0⟩ := hB
          have e1 : a.eval (.tmp 1) = .slice (some ⟨gs, os, none⟩) n c := hk b0 hb0 1 (by decide)
          refine ⟨rfl, opwp_move rfl e1 ?_⟩
          exact ⟨Below.refl _ _, _, rfl, fun d hd b _ _ => by cases hd; rfl⟩
        | 2, hjq =>
          simp only [List.getElem?_toArray, List.getElem?_cons_zero, List.getElem?_cons_succ, Option.some.injEq] at hjq
          subst hjq
          intro B a w hB hb hk
          obtain ⟨b0, hb0⟩ := hB
          have e6 : a.eval (.tmp 6) = .int .i64 (k : Nat) := hk b0 hb0 6 (by decide)
          refine ⟨rfl, opwp_move rfl e6 ?_⟩
          exact ⟨Below.refl _ _, _, rfl, fun d hd b _ _ => by cases hd; rfl⟩
        | 3, hjq =>
          simp only [List.getElem?_toArray, List.getElem?_cons_zero, List.getElem?_cons_succ, Option.some.injEq] at hjq
          subst hjq
          intro B a w hB hb hk
          obtain ⟨b0, hb0⟩ := hB
          have e15 : a.eval (.tmp 15) = .slice (some ⟨gs, os, none⟩) n c := hk b0 hb0 15 (by decide)
          have e16 : a.eval (.tmp 16) = .int .i64 (k : Nat) := hk b0 hb0 16 (by decide)
          refine ⟨rfl, opwp_iaS rfl e15 e16 h1 ?_⟩
          exact ⟨Below.refl _ _, _, rfl, fun d hd b _ _ => by cases hd; rfl⟩
        | 4, hjq =>
          simp only [List.getElem?_toArray, List.getElem?_cons_zero, List.getElem?_cons_succ, Option.some.injEq] at hjq
          subst hjq
          intro B a w hB hb hk
          obtain ⟨b0, hb0⟩ := hB
          have e17 : a.eval (.tmp 17) = .pointer (some ⟨gs, os + k * 3, none⟩) := hk b0 hb0 17 (by decide)
          refine ⟨rfl, opwp_ldP rfl e17 ((hb.cell (p := ⟨gs, os + k * 3, none⟩) hblr).trans s0) ((hb.cell (p := ⟨gs, os + k * 3 + 1, none⟩) hblr).trans s1) ((hb.cell (p := ⟨gs, os + k * 3 + 2, none⟩) hblr).trans s2) ?_⟩
          exact ⟨Below.refl _ _, _, rfl, fun d hd b _ _ => by cases hd; rfl⟩
        | 5, hjq =>
          simp only [List.getElem?_toArray, List.getElem?_cons_zero, List.getElem?_cons_succ, Option.some.injEq] at hjq
          subst hjq
          intro B a w hB hb hk
          obtain ⟨b0, hb0⟩ := hB
          have e14 : a.eval (.tmp 14) = .agg #[.int .i64 kd', .int .i64 nn', .int .u64 u', .string s', .slice A1' m1' c1', .slice A2' al.length c2'] := hk b0 hb0 14 (by decide)
          have e18 : a.eval (.tmp 18) = .agg #[.string ⟨key.toArray⟩, .int .i64 at_, .bool by_] := hk b0 hb0 18 (by decide)
          refine ⟨rfl, opwp_call (fun v w' => v = .int .i64 ld ∧ Below w.heap.size w w') (exec_call [a.eval (.tmp 14), a.eval (.tmp 18)] Tryz.func57 (by kernel_rfl) rfl rfl rfl) ?_ ?_⟩
          · rw [e14, e18]
            refine (HLD.out w (HB.out.trans (hb.mono (Nat.le_of_lt (Nat.lt_of_succ_lt hzr))))).mono ?_
            rintro e w' ⟨rfl, h⟩
            exact ⟨_, rfl, rfl, h⟩
          · rintro v w' ⟨rfl, h⟩
            exact ⟨h, _, rfl, fun d hd b _ _ => by cases hd; rfl⟩
        | 6, hjq =>
          simp only [List.getElem?_toArray, List.getElem?_cons_zero, List.getElem?_cons_succ, Option.some.injEq] at hjq
          subst hjq
          intro B a w hB hb hk
          obtain ⟨b0, hb0⟩ := hB
          have e19 : a.eval (.tmp 19) = .int .i64 ld := hk b0 hb0 19 (by decide)
          refine ⟨rfl, opwp_assign rfl e19 ?_⟩
          exact ⟨Below.refl _ _, _, rfl, fun d hd b _ _ => by cases hd; rfl⟩
        | kq + 7, hjq => cases hjq
      rintro f wq hb hp
      have e7 : f 7 = .int .i64 ld := hp _ (Nat.le_refl _) 7 (by decide)
      simp only [puts, List.foldl, Act.put, List.setIfInBounds_toArray, List.set_cons_zero, List.set_cons_succ, e7]
      generalize f 14 = v14
      generalize f 15 = v15
      generalize f 16 = v16
      generalize f 17 = v17
      generalize f 18 = v18
      generalize f 19 = v19
      have hXq := below_row hXr hb
      have hYq := below_row hYr hb
      have HBQ := Lib.hid (HB.out.trans (hb.mono (by omega)))
      have hzq : W0.heap.size + 1 < wq.heap.size := Nat.lt_of_lt_of_le hzr hb.size
      have HBB := Lib.hid hb
      clear hp e7 hb hXr hYr z0 z1 z2 z3 z4 z5 s0 s1 s2 hblr
      rcases hlb with rfl | ⟨hl0, hll⟩
      · rw [if_pos (by omega)] at hG2
        have HG2 := Lib.hid hG2
        obtain ⟨y0, y1, y2, y3, y4, y5⟩ := cells6 hYq
        have fy0 : wq.frozen? ⟨W0.heap.size + 1, 0, none⟩ = false := frozen_of_row _ _ _ _ _ hYq
        have fy1 : wq.frozen? ⟨W0.heap.size + 1, 1, none⟩ = false := frozen_of_row _ _ _ _ _ hYq
        have fy2 : wq.frozen? ⟨W0.heap.size + 1, 2, none⟩ = false := frozen_of_row _ _ _ _ _ hYq
        have fy3 : wq.frozen? ⟨W0.heap.size + 1, 3, none⟩ = false := frozen_of_row _ _ _ _ _ hYq
        have fy4 : wq.frozen? ⟨W0.heap.size + 1, 4, none⟩ = false := frozen_of_row _ _ _ _ _ hYq
        have fy5 : wq.frozen? ⟨W0.heap.size + 1, 5, none⟩ = false := frozen_of_row _ _ _ _ _ hYq
        clear hG2 hG hR hSt hk1 hl1 hkids hld
        go_wp2_with fail
        (refine bodyPost_ret (v := .tuple #[.agg #[.int .i64 0, .int .i64 0, .int .u64 0, .string ⟨#[]⟩, .slice none 0 0, .slice none 0 0], .int .i64 80]) (by simp [results, Tryz.results23, go_sem, *]) rfl ?_)
        refine ⟨⟨_, by unfold getR; rw [HG2.out], by unfold getR; rw [HG2.out]; exact fresh_zero _ _⟩, below_six HBQ.out (by omega) _ _ _ _ _ _⟩
      · rw [if_neg (by omega)] at hG2
        obtain ⟨j, hj⟩ : ∃ j : Nat, ld = (j : Int) := ⟨ld.toNat, by omega⟩
        subst hj
        rw [Int.toNat_natCast] at hll hG2
        have hjl : j < al.length := hll
        have hkd : (kidsOf (.mk akd ann au ast aks al)).getD j (.mk 0 0 0 [] [] []) = al[j] := by
          rw [List.getD_eq_getElem?_getD]
          show (al[j]?).getD _ = _
          rw [List.getElem?_eq_getElem hjl]
          rfl
        rw [hkd] at hG2
        have HG2 := Lib.hid hG2
        obtain ⟨bk, ok, kd3, nn3, uu3, s3, A3, m3, c3, A4, m4, c4, rfl, hkb, hkb2, hrep, p0, p1, p2, p3, p4, p5⟩ := hkids.kid hl1 HBQ.out j hjl
        have HREP := Lib.hid (And.intro hrep (RRep.smallKid HSM.out hjl))
        generalize al[j] = T2 at *
        have hbX : bk ≠ W0.heap.size := by omega
        have fx0 : wq.frozen? ⟨W0.heap.size, 0, none⟩ = false := frozen_of_row _ _ _ _ _ hXq
        have fx1 : wq.frozen? ⟨W0.heap.size, 1, none⟩ = false := frozen_of_row _ _ _ _ _ hXq
        have fx2 : wq.frozen? ⟨W0.heap.size, 2, none⟩ = false := frozen_of_row _ _ _ _ _ hXq
        have fx3 : wq.frozen? ⟨W0.heap.size, 3, none⟩ = false := frozen_of_row _ _ _ _ _ hXq
        have fx4 : wq.frozen? ⟨W0.heap.size, 4, none⟩ = false := frozen_of_row _ _ _ _ _ hXq
        have fx5 : wq.frozen? ⟨W0.heap.size, 5, none⟩ = false := frozen_of_row _ _ _ _ _ hXq
        have HXQ := Lib.hid hXq
        have HYQ := Lib.hid hYq
        obtain ⟨z0, z1, z2, z3, z4, z5⟩ := cells6 hXq
        have hj0 : ¬ (j : Int) < 0 := by omega
        have hjm : (j : Int) < (al.length : Int) := by omega
        clear hG2 hG hR hSt hk1 hl1 hkids hld hll hrep hkd
        go_wp2_with fail
        go_roundw
        case rel => exact ⟨k + 1, T2, kd3, nn3, uu3, s3, A3, m3, c3, A4, m4, c4, by omega, by go_num, HG2, HREP, by simp; omega, row6_set HXQ.out _ _ _ _ _ _, ((touch6 (Y := W0.heap.size) _ _ _ _ _ _).block _ hzq (by simp)).trans HYQ.out, below_six HBQ.out (Nat.le_refl _) _ _ _ _ _ _⟩
        case measure => simp only [intOf]; omega
    · have h1' : ¬ (k : Int) < (n : Int) := by omega
      have hG2 := hG.out
      rw [List.drop_of_length_le (by rw [← HN.out]; omega), getD] at hG2
      have HG2 := Lib.hid hG2
      have HC := Lib.hid (fun (V : World) (hV : Below W0.heap.size W0 V) => copynode_any T' V _ _ _ _ _ _ (RRep.below hV _ _ hR.out.1) hR.out.2)
      clear hG2 hG hR hXr
      go_wp2_with fail
      refine (HC.out _ hbr).mono ?_
      clear HC
      rintro e w1 ⟨⟨v1, rfl, hf⟩, hb1⟩
      have HF := Lib.hid hf
      obtain ⟨y0, y1, y2, y3, y4, y5, bs, rfl, hn1, -, -⟩ := hf
      obtain ⟨kd1, nn1, uu1, s1, B1, m1, d1, B2, m2, d2, rfl, rfl, rfl, rfl, rfl, rfl⟩ := hn1.form2
      have hY1 := below_row hYr hb1
      obtain ⟨q0, q1, q2, q3, q4, q5⟩ := cells6 hY1
      have fy0 : w1.frozen? ⟨W0.heap.size + 1, 0, none⟩ = false := frozen_of_row _ _ _ _ _ hY1
      have fy1 : w1.frozen? ⟨W0.heap.size + 1, 1, none⟩ = false := frozen_of_row _ _ _ _ _ hY1
      have fy2 : w1.frozen? ⟨W0.heap.size + 1, 2, none⟩ = false := frozen_of_row _ _ _ _ _ hY1
      have fy3 : w1.frozen? ⟨W0.heap.size + 1, 3, none⟩ = false := frozen_of_row _ _ _ _ _ hY1
      have fy4 : w1.frozen? ⟨W0.heap.size + 1, 4, none⟩ = false := frozen_of_row _ _ _ _ _ hY1
      have fy5 : w1.frozen? ⟨W0.heap.size + 1, 5, none⟩ = false := frozen_of_row _ _ _ _ _ hY1
      have hz1 := hb1.size
      have HB1 := Lib.hid (hbr.trans (hb1.mono (by omega)))
      clear hY1 hn1 hb1 hbr hYr
      go_wp2_with fail
      (refine bodyPost_ret (v := .tuple #[.agg #[.int .i64 kd1, .int .i64 nn1, .int .u64 uu1, .string s1, .slice B1 m1 d1, .slice B2 m2 d2], .int .i64 0]) (by simp [results, Tryz.results23, go_sem, *]) rfl ?_)
      exact ⟨⟨_, by unfold getR; rw [HG2.out], by unfold getR; rw [HG2.out]; exact HF.out.six (by omega) (by omega) _ _ _ _ _ _⟩, below_six HB1.out (by omega) _ _ _ _ _ _⟩
end
end Go.Proofs.YtlblddeemkefkaaGreatDoor
