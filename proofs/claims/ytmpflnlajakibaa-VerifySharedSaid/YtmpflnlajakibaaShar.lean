/- The law VerifyShared: its walk. -/
import Derived.Test.YtmpflnlajakibaaShD
import Derived.Test.YtmpflnlajakibaaDeep
import Derived.Deep.LoopGhost
import Derived.Laws.OwnMore
namespace Go.Proofs.Ytmpflnlajakibaa
set_option linter.unusedVariables false
set_option linter.unusedSimpArgs false
open Go.RowKit
/-- The row that the law builds. -/
structure Bld (B : Nat) (w0 w : World) (v : Value) (L : List UInt8) : Prop where
  own : w.ownsRow B 5 1 v L.length (bytV L)
  bel : Below B w0 w
  le : B ≤ w.heap.size
theorem Bld.grow {B : Nat} {w0 w w' : World} {v v' : Value} {L M : List UInt8} {o : Obj} (h : Bld B w0 w v L) (m : Nat) (hm : M.length = m) (hg : (w.alloc o).grownBy w' v.ownBlock) (ho : w'.ownsRow B 5 1 v' (L.length + m) (bytV L ++ bytV M)) : Bld B w0 w' v' (L ++ M) := by
  have hs := hg.size
  have hle := h.le
  refine ⟨?_, (h.bel.alloc h.le o).grown hg (by simp; omega) (fun k hk => (h.own.lt k hk).1), by simp at hs; omega⟩
  rw [List.length_append, hm, show bytV (L ++ M) = bytV L ++ bytV M by simp [bytV]]
  exact ho
theorem owns_len {w : World} {B : Nat} {e : TypeId} {sz n : Nat} {v : Value} {xs : List Value} (h : w.ownsRow B e sz v n xs) : ∃ A c, v = .slice A n c := by
  rcases h.2 with ⟨rfl, rfl⟩ | ⟨g, c, cur, rfl, -⟩
  · exact ⟨_, _, rfl⟩
  · exact ⟨_, _, rfl⟩
theorem bytV_cells {w : World} {g : Nat} {M : List UInt8} {cur : Array Value} {e : TypeId} {fr : Nat × Nat} (h : w.heap[g]? = some (.cells cur e fr)) (hc : cur.toList = bytV M) : ∀ j u, (bytV M)[j]? = some u → w.cell? ((⟨g, 0, none⟩ : Addr).add j) = some u := by
  intro j u hj
  have := cell_of_row w g (0 + j) cur e fr h
  rw [show ((⟨g, 0, none⟩ : Addr).add j) = ⟨g, 0 + j, none⟩ by simp only [Addr.add]; split <;> simp_all, this, Nat.zero_add, ← Array.getElem?_toList, hc, hj]
theorem bytV_one (M : List UInt8) : ∀ u ∈ bytV M, u.oneCell' = true := by
  intro u hu
  obtain ⟨y, -, rfl⟩ := List.mem_map.1 hu
  rfl
theorem u8_nat (k : Nat) (h : k < 256) : ((k.toUInt8).toNat : Int) = k := by
  have : k.toUInt8.toNat = k % 256 := by simp
  omega
set_option maxHeartbeats 8000000 in
set_option maxRecDepth 100000 in
theorem shar_walk (a0 a1 : Int) (w : World) : Calls Try.prog 5 #[.int .i64 a0, .int .i64 a1] w fun e w' => e = .returned (.bool true) ∧ Below w.heap.size w w' := by
  obtain ⟨i0, hi, iz0, iz1, iz2⟩ := info_parts u8info
  have Hi := Lib.hid hi
  clear hi
  obtain ⟨d0, d1⟩ := bringV_bd a0 (n := 63) (by omega)
  obtain ⟨m0, m1⟩ := bringV_bd a1 (n := 4) (by omega)
  have HB0 := Lib.hid (fun W => bring_any a0 63 W (by omega) (by omega))
  have HB1 := Lib.hid (fun W => bring_any a1 4 W (by omega) (by omega))
  obtain ⟨d, hd⟩ := Int.eq_ofNat_of_zero_le d0
  obtain ⟨m, hm⟩ : ∃ m : Nat, bringV a1 4 = (m : Int) - 2 := ⟨(bringV a1 4 + 2).toNat, by omega⟩
  rw [hd] at HB0 d1
  rw [hm] at HB1 m0 m1
  have e2 : (2 : Int) + ((m : Int) - 2) = m := by omega
  have e3 : IntKind.i64.wrap (m : Int) = m := IntWalk.i64_in _ (by omega)
  have e4 : IntKind.u8.wrap (m : Int) = ((m.toUInt8).toNat : Int) := by rw [u8_nat m (by omega)]; exact IntWalk.u8_in _ (by omega)
  have hk1 := sh_check m d (by omega) (by omega) (by omega) 64 (by omega)
  have hk2 := sh_check m d (by omega) (by omega) (by omega) ((d : Int) + 1) (by omega)
  have hdm : (d : Int) * m ≤ 62 * 5 := Int.mul_le_mul (by omega) (by omega) (by omega) (by omega)
  have hdm0 : 0 ≤ (d : Int) * m := Int.mul_nonneg (by omega) (by omega)
  have HK1 := Lib.hid hk1
  have HK2 := Lib.hid hk2
  clear hd hm d0 hk1 hk2
  go_enter Try.func5, Try.ntmps5
  go_wp2_with (first | (go_at_call_of 16 (Value.int IntKind.i64 a0); refine (HB0.out _).mono ?_; rintro e w1 ⟨rfl, rfl⟩) | (go_at_call_of 16 (Value.int IntKind.i64 a1); refine (HB1.out _).mono ?_; rintro e w1 ⟨rfl, rfl⟩))
  go_loopw [5, 6, 7] (fun v a i wr => ∃ j : Nat, j ≤ d ∧ i = .int .i64 j ∧ a = .int .i64 (((shB m j).length - gapS m j : Nat) : Int) ∧ Bld w.heap.size w wr v (shB m j)) (fun _ _ i _ => d - (intOf i).toNat)
  case atStart => exact ⟨0, by omega, rfl, rfl, ⟨World.ownsRow_lit w #[.int .u8 0] 1 (Nat.le_refl _) (by decide) rfl, by (repeat' (first | (with_reducible exact Below.refl _ _) | (with_reducible assumption) | (with_reducible refine Below.alloc ?_ ?_ _) | (with_reducible refine Below.drew ?_) | (with_reducible refine below_drewN ?_ _) | (with_reducible refine Below.setCell ?_ ?_ _) | (with_reducible refine below_call (by assumption) ?_ ?_) | (with_reducible exact Nat.le_refl _) | omega | (simp only [World.size_alloc, World.size_setCell, World.size_drew]; omega) | (simp; omega))), by simp⟩⟩
  case round =>
    rename_i wr hK0
    obtain ⟨j, hj, rfl, rfl, hb⟩ := hrel
    have hlen := shB_len m j
    have hgap := gapS_le m j
    have hjm : j * (1 + 2 * m) ≤ 62 * 11 := Nat.mul_le_mul (by omega) (by omega)
    obtain ⟨A0, c0, rfl⟩ := owns_len hb.own
    have hvg := vA_gap m j
    have hv1 : 1 ≤ vA m j := by cases j <;> simp [vA]; omega
    obtain ⟨AT, hAT⟩ : ∃ AT, (shB m j).length - gapS m j = AT := ⟨_, rfl⟩
    rw [hAT]
    have hat : AT + gapS m j = (shB m j).length := by omega
    have Hg := Lib.hid hat
    clear hat hAT hvg hv1
    have hLL : (shB m j).length ≤ 700 := by omega
    by_cases hlt : j < d
    · have hlt' : (j : Int) < (d : Int) := by omega
      have hnx : shB m (j + 1) = shB m j ++ ([m.toUInt8] ++ ((List.range m).map (fun k => (gapS m j + 1 + k).toUInt8) ++ List.replicate m 40)) := rfl
      have HNX := Lib.hid hnx
      have hl2 := Lib.hid (shB_len m (j + 1))
      have HL0 := Lib.hid hlen
      clear hnx hlen
      generalize shB m j = L at *
      generalize gapS m j = gp at *
      go_wp2_with (at_builtin; refine wpList_append_own _ rfl _ _ 22 rfl w.heap.size 5 i0 (.int .u8 0) 1 1 Try.underlying22 Hi.out iz0 iz1 iz2 rfl (by decide) _ _ (bytV L) rfl (hb.own.alloc _) ⟨wr.heap.size, 0, none⟩ 1 1 (bytV [m.toUInt8]) rfl rfl ?c2 (bytV_one _) ?c4 ?c5 ?c6 ?_)
      case c2 => exact bytV_cells (M := [m.toUInt8]) (heap_alloc_new wr _) (by simp [bytV])
      case c4 => unfold maxLen; omega
      case c5 => omega
      case c6 => have := hb.le; simp; omega
      intro v1 w1 ho hg _
      have hb1 := hb.grow 1 rfl hg ho
      clear ho hg hb
      obtain ⟨A1, c1, rfl⟩ := owns_len hb1.own
      obtain ⟨T, hT⟩ : ∃ T, (L ++ [m.toUInt8]).length = T := ⟨_, rfl⟩
      rw [hT] at hb1 ⊢
      have hTL : T = L.length + 1 := by rw [← hT]; simp
      have HTL := Lib.hid hTL
      clear hTL
      go_wp2_with fail
      go_loopw [5, 9] (fun v2 k2 w2r => ∃ kk : Nat, kk ≤ m ∧ k2 = .int .i64 kk ∧ Bld w.heap.size w w2r v2 (L ++ [m.toUInt8] ++ (List.range kk).map (fun k => (gp + 1 + k).toUInt8))) (fun _ k2 _ => m - (intOf k2).toNat)
      case atStart => exact ⟨0, by omega, rfl, by simpa using hb1⟩
      case round =>
        clear hb1 hT
        obtain ⟨kk, hkk, rfl, hb2⟩ := hrel
        obtain ⟨A2, c2, rfl⟩ := owns_len hb2.own
        by_cases hk : kk < m
        · have hk' : (kk : Int) < (m : Int) := by omega
          have hgo := Hg.out
          have hto := HTL.out
          have q1 : IntKind.i64.wrap ((T : Int) + kk) = T + kk := IntWalk.i64_in _ (by omega)
          have q2 : IntKind.i64.wrap ((T : Int) + kk - AT) = T + kk - AT := IntWalk.i64_in _ (by omega)
          have q3 : IntKind.u8.wrap ((T : Int) + kk - AT) = (((gp + 1 + kk).toUInt8).toNat : Int) := by
            rw [u8_nat _ (by omega), show (T : Int) + kk - AT = ((gp + 1 + kk : Nat) : Int) by omega]
            exact IntWalk.u8_in _ (by omega)
          have hnx2 : (L ++ [m.toUInt8] ++ (List.range (kk + 1)).map (fun k => (gp + 1 + k).toUInt8)) = (L ++ [m.toUInt8] ++ (List.range kk).map (fun k => (gp + 1 + k).toUInt8)) ++ [(gp + 1 + kk).toUInt8] := by simp [List.range_succ, List.append_assoc]
          have HN2 := Lib.hid hnx2
          have hlb : (L ++ [m.toUInt8] ++ (List.range kk).map (fun k => (gp + 1 + k).toUInt8)).length ≤ 710 := by simp; omega
          clear hnx2 hgo hto
          generalize (L ++ [m.toUInt8] ++ (List.range kk).map (fun k => (gp + 1 + k).toUInt8)) = LL at *
          go_wp2_with (at_builtin; refine wpList_append_own _ rfl _ _ 22 rfl w.heap.size 5 i0 (.int .u8 0) 1 1 Try.underlying22 Hi.out iz0 iz1 iz2 rfl (by decide) _ _ (bytV LL) rfl (hb2.own.alloc _) ⟨_, 0, none⟩ 1 1 (bytV [(gp + 1 + kk).toUInt8]) rfl rfl ?c2 (bytV_one _) ?c4 ?c5 ?c6 ?_)
          case c2 => exact bytV_cells (M := [(gp + 1 + kk).toUInt8]) (heap_alloc_new _ _) (by simp [bytV])
          case c4 => unfold maxLen; omega
          case c5 => omega
          case c6 => have := hb2.le; simp; omega
          intro v3 w3 ho hg _
          have hb3 := hb2.grow 1 rfl hg ho
          have HB3 := Lib.hid hb3
          clear ho hg hb2 hb3
          go_wp2_with fail
          go_round
          case rel => exact ⟨kk + 1, by omega, by go_num, by rw [HN2.out]; simpa using HB3.out⟩
          case measure => simp only [intOf]; omega
        · have hk' : ¬ (kk : Int) < (m : Int) := by omega
          have hkm : kk = m := by omega
          subst hkm
          go_wp2_with fail
          go_loopw [5, 10] (fun v3 k3 w3r => ∃ k' : Nat, k' ≤ kk ∧ k3 = .int .i64 k' ∧ Bld w.heap.size w w3r v3 (L ++ [kk.toUInt8] ++ (List.range kk).map (fun k => (gp + 1 + k).toUInt8) ++ List.replicate k' 40)) (fun _ k3 _ => kk - (intOf k3).toNat)
          case atStart => exact ⟨0, by omega, rfl, by simpa using hb2⟩
          case round =>
            clear hb2
            obtain ⟨k', hkk', rfl, hb3⟩ := hrel
            obtain ⟨A3, c3, rfl⟩ := owns_len hb3.own
            by_cases hk3 : k' < kk
            · have hk3' : (k' : Int) < (kk : Int) := by omega
              have hto := HTL.out
              have hnx2 : L ++ [kk.toUInt8] ++ (List.range kk).map (fun k => (gp + 1 + k).toUInt8) ++ List.replicate (k' + 1) 40 = L ++ [kk.toUInt8] ++ (List.range kk).map (fun k => (gp + 1 + k).toUInt8) ++ List.replicate k' 40 ++ [40] := by simp [List.replicate_succ', List.append_assoc]
              have HN2 := Lib.hid hnx2
              have hlb : (L ++ [kk.toUInt8] ++ (List.range kk).map (fun k => (gp + 1 + k).toUInt8) ++ List.replicate k' 40).length ≤ 720 := by simp; omega
              clear hnx2 hto
              generalize L ++ [kk.toUInt8] ++ (List.range kk).map (fun k => (gp + 1 + k).toUInt8) ++ List.replicate k' 40 = LL at *
              go_wp2_with (at_builtin; refine wpList_append_own _ rfl _ _ 22 rfl w.heap.size 5 i0 (.int .u8 0) 1 1 Try.underlying22 Hi.out iz0 iz1 iz2 rfl (by decide) _ _ (bytV LL) rfl (hb3.own.alloc _) ⟨_, 0, none⟩ 1 1 (bytV [40]) rfl rfl ?c2 (bytV_one _) ?c4 ?c5 ?c6 ?_)
              case c2 => exact bytV_cells (M := [40]) (heap_alloc_new _ _) (by simp [bytV])
              case c4 => unfold maxLen; omega
              case c5 => omega
              case c6 => have := hb3.le; simp; omega
              intro v4 w4 ho hg _
              have hb4 := hb3.grow 1 rfl hg ho
              have HB4 := Lib.hid hb4
              clear ho hg hb3 hb4
              go_wp2_with fail
              go_round
              case rel => exact ⟨k' + 1, by omega, by go_num, by rw [HN2.out]; simpa using HB4.out⟩
              case measure => simp only [intOf]; omega
            · have hk3' : ¬ (k' : Int) < (kk : Int) := by omega
              have hkm : k' = kk := by omega
              subst hkm
              have HB3 := Lib.hid hb3
              clear hb3
              go_wp2_with fail
              go_round
              case rel =>
                refine ⟨j + 1, by omega, by go_num, ?_, ?_⟩
                · have h1 := hl2.out
                  have h2 := HTL.out
                  have h3 : gapS k' (j + 1) = 2 * k' := by unfold gapS; rw [if_neg (by omega)]
                  have h4 := HL0.out
                  congr 1
                  rw [h1, h3, h2, h4, Nat.add_mul]
                  omega
                · rw [HNX.out]
                  simpa [List.append_assoc] using HB3.out
              case measure => simp only [intOf]; omega
    · have hlt' : ¬ (j : Int) < (d : Int) := by omega
      have : j = d := by omega
      subst this
      have hgo := Hg.out
      have q1 : IntKind.i64.wrap (((shB m j).length : Int) - AT) = ((shB m j).length : Int) - AT := IntWalk.i64_in _ (by omega)
      have q3 : IntKind.u8.wrap (((shB m j).length : Int) - AT) = (((gapS m j).toUInt8).toNat : Int) := by
        rw [u8_nat _ (by omega), show ((shB m j).length : Int) - AT = ((gapS m j : Nat) : Int) by omega]
        exact IntWalk.u8_in _ (by omega)
      have s1 : IntKind.i64.wrap ((j : Int) * m) = j * m := IntWalk.i64_in _ (by omega)
      have s2 : IntKind.i64.wrap (1 + (j : Int) * m) = 1 + j * m := IntWalk.i64_in _ (by omega)
      have s3 : IntKind.i64.wrap ((j : Int) + 1) = j + 1 := IntWalk.i64_in _ (by omega)
      have G1 : Hid (givesB (shD m j) 64 1000 (1 + j * m) 0 (j + 1) 0 = true) := Lib.hid (by unfold givesB; rw [HK1.out]; simp)
      have G2 : Hid (givesB (shD m j) (j + 1) 1000 (1 + j * m) 0 (j + 1) 0 = true) := Lib.hid (by unfold givesB; rw [HK2.out]; simp)
      have hD : shD m j = shB m j ++ [(gapS m j).toUInt8, 40, 1] := rfl
      have HLN := Lib.hid hlen
      obtain ⟨G8, hG8⟩ : ∃ G8, (gapS m j).toUInt8 = G8 := ⟨_, rfl⟩
      rw [hG8] at hD q3
      clear HK1 HK2 hgo hdm0 hlen
      go_wp2_with (at_builtin; refine wpList_append_own _ rfl _ _ 22 rfl w.heap.size 5 i0 (.int .u8 0) 1 1 Try.underlying22 Hi.out iz0 iz1 iz2 rfl (by decide) _ _ (bytV (shB m j)) rfl (hb.own.alloc _) ⟨wr.heap.size, 0, none⟩ 3 3 (bytV [G8, 40, 1]) rfl rfl ?c2 (bytV_one _) ?c4 ?c5 ?c6 ?_)
      case c2 => exact fun j u h => h
      case c4 => unfold maxLen; omega
      case c5 => omega
      case c6 => have := hb.le; simp; omega
      intro v1 w1 ho hg _
      have hb1 : Bld w.heap.size w w1 v1 (shB m j ++ [G8, 40, 1]) := hb.grow 3 rfl hg (by simpa using ho)
      rw [← hD] at hb1
      have hby : Byt w1 v1 (shD m j) := byt_of_owns hb1.own (by rw [hD]; simp; omega)
      have hbe := hb1.bel
      have hle1 := hb1.le
      clear ho hg hb hb1 hD q1 q3
      go_wp2_with fail
      refine (gives_ok v1 (shD m j) _ hby 64 1000 (1 + j * m) 0 (j + 1) 0 (by decide) G1.out).mono ?_
      rintro e w2 ⟨rfl, hb2⟩
      have hz2 := hb2.size
      go_wp2_with fail
      refine (gives_ok v1 (shD m j) _ (hby.below (by (repeat' (first | (with_reducible exact Below.refl _ _) | (with_reducible assumption) | (with_reducible refine Below.alloc ?_ ?_ _) | (with_reducible refine Below.drew ?_) | (with_reducible refine below_drewN ?_ _) | (with_reducible refine Below.setCell ?_ ?_ _) | (with_reducible refine below_call (by assumption) ?_ ?_) | (with_reducible exact Nat.le_refl _) | omega | (simp only [World.size_alloc, World.size_setCell, World.size_drew]; omega) | (simp; omega))))) (j + 1) 1000 (1 + j * m) 0 (j + 1) 0 (by decide) G2.out).mono ?_
      rintro e w3 ⟨rfl, hb3⟩
      have hz3 := hb3.size
      go_wp2_with fail
      refine (works_any _).mono ?_
      rintro e w4 ⟨rfl, hb4⟩
      go_wp2_with fail
      go_returns
      exact ⟨rfl, by (repeat' (first | (with_reducible exact Below.refl _ _) | (with_reducible assumption) | (with_reducible refine Below.alloc ?_ ?_ _) | (with_reducible refine Below.drew ?_) | (with_reducible refine below_drewN ?_ _) | (with_reducible refine Below.setCell ?_ ?_ _) | (with_reducible refine below_call (by assumption) ?_ ?_) | (with_reducible exact Nat.le_refl _) | omega | (simp only [World.size_alloc, World.size_setCell, World.size_drew]; omega) | (simp; omega)))⟩
end Go.Proofs.Ytmpflnlajakibaa
