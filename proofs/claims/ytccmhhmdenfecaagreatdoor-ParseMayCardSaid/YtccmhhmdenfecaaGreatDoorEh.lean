/- The walk of tree.Check: a range over the iterator of nodes. -/
import Derived.Test.YtccmhhmdenfecaaGreatDoorQa
import Derived.Test.YtccmhhmdenfecaaGreatDoorEf
import Derived.Test.YtccmhhmdenfecaaGreatDoorEg
namespace Go.Proofs.YtccmhhmdenfecaaGreatDoor
set_option linter.unusedVariables false
set_option linter.unusedSimpArgs false
open Go.RowKit Go.Shelf
attribute [local go_sem] Oper.semAt_some
theorem others_below {W W' : World} (h : Below W.heap.size W W') : KeepsOthers W W' := ⟨h.size, fun k o hk _ => (h.block k (Array.getElem?_eq_some_iff.1 hk).1).trans hk⟩
theorem KS_below {nb : Nat} {W W' : World} (h : Below W.heap.size W W') : KS nb W W' := ⟨fun k _ _ _ _ hk => (h.block k (Array.getElem?_eq_some_iff.1 hk).1).trans hk, h.size⟩
theorem KS_set (nb : Nat) (W : World) (v : Value) : KS nb W (W.setCell ⟨nb, 0, none⟩ v) :=
  ⟨fun k cur ty fr hk h => (heap_setCell_other W ⟨nb, 0, none⟩ k v (fun e => hk e)).trans h, by simp⟩
theorem Boxed.below {W W' : World} {B : Nat} {t : TypeId} {v : Value} (h : Boxed W B t v) (hb : Below W.heap.size W W') : Boxed W' B t v := (hb.block B h.lt).trans h
/-- What the nodes so far say. -/
def seen {w0 : World} (pre : List (VisT w0)) : Int := foldE 0 (pre.map fun x => x.1.1)
theorem seen_snoc {w0 : World} (pre : List (VisT w0)) (x : VisT w0) (h : seen pre = 0) : seen (pre ++ [x]) = stepD (pre.length + 1) x.1.1.1 x.1.1.2 := by
  unfold seen at h ⊢
  rw [List.map_append, foldE_app, h, List.length_map, List.map_cons, List.map_nil, foldE, foldE]
  simp only [ne_eq, not_true_eq_false, if_false]
  rw [show (0 : Int) + (pre.length : Int) + 1 = pre.length + 1 by omega]
  split
  · rfl
  · rename_i hh; simpa using (Decidable.not_not.1 hh).symm
theorem fold_pre {a b : List (Int × DT)} {n : Int} (h : foldE n a ≠ 0) : foldE n (a ++ b) = foldE n a := by rw [foldE_app, if_pos h]
set_option maxRecDepth 100000 in
set_option maxHeartbeats 8000000 in
theorem check_in (n : Nat) (hn : 6 ≤ n) (T : DT) (x0 x1 x2 x3 x4 x5 : Value) (bs : List Nat) (w : World) (hN : NRep w T [x0, x1, x2, x3, x4, x5] bs) (hwf : WfD T) (hs : sizeD T ≤ 1073741824) :
    CallsIn Fence.wide n Tryz.prog 21 #[.agg #[x0, x1, x2, x3, x4, x5]] w fun e W' => e = .returned (.int .i64 (chkD T)) ∧ Below w.heap.size w W' := by
  have hro : Fence.wide.round = none := rfl
  have h1 : 1 ≤ n := by omega
  have hbd := hN.bd _ _ _
  have hdp := depth_size T
  refine callsIn_of_wp_marks Tryz.func21 rfl trivial ?_ hro
  simp only [Tryz.ntmps21, List.size_toArray, List.length_cons, List.length_nil, Nat.reduceAdd, Nat.reduceSub, Array.replicate_succ, Array.replicate_zero, List.push_toArray, List.append_toArray, List.nil_append, List.cons_append]
  gi_wp2_with (refine ⟨trivial, ?_⟩; gi_at_call 42; refine (walked_in Fence.wide (n - 1) trivial hro x0 x1 x2 x3 x4 x5 _).mono ?_; rintro e w' ⟨rfl, rfl⟩)
  have bY : Boxed ((((w.alloc (.cells #[x0, x1, x2, x3, x4, x5] 27)).alloc (.cells #[.int .i64 0] 28)).alloc (.cells #[.int .i64 0] 3)).alloc (.cells #[x0, x1, x2, x3, x4, x5] 27)) (w.heap.size + 1) 28 (.int .i64 0) := by
    have := Boxed.new (w.alloc (.cells #[x0, x1, x2, x3, x4, x5] 27)) 28 (.int .i64 0)
    rw [World.size_alloc] at this
    exact (this.alloc _).alloc _
  have bN : Boxed ((((w.alloc (.cells #[x0, x1, x2, x3, x4, x5] 27)).alloc (.cells #[.int .i64 0] 28)).alloc (.cells #[.int .i64 0] 3)).alloc (.cells #[x0, x1, x2, x3, x4, x5] 27)) (w.heap.size + 2) 3 (.int .i64 0) := by
    have := Boxed.new ((w.alloc (.cells #[x0, x1, x2, x3, x4, x5] 27)).alloc (.cells #[.int .i64 0] 28)) 3 (.int .i64 0)
    rw [World.size_alloc, World.size_alloc] at this
    exact this.alloc _
  have hBx : ((((w.alloc (.cells #[x0, x1, x2, x3, x4, x5] 27)).alloc (.cells #[.int .i64 0] 28)).alloc (.cells #[.int .i64 0] 3)).alloc (.cells #[x0, x1, x2, x3, x4, x5] 27)).heap[w.heap.size + 1 + 1 + 1]? = some (.cells #[x0, x1, x2, x3, x4, x5] 27 (0, 0)) := by
    simpa using heap_alloc_new (((w.alloc (.cells #[x0, x1, x2, x3, x4, x5] 27)).alloc (.cells #[.int .i64 0] 28)).alloc (.cells #[.int .i64 0] 3)) (.cells #[x0, x1, x2, x3, x4, x5] 27)
  have hB0 : Below w.heap.size w ((((w.alloc (.cells #[x0, x1, x2, x3, x4, x5] 27)).alloc (.cells #[.int .i64 0] 28)).alloc (.cells #[.int .i64 0] 3)).alloc (.cells #[x0, x1, x2, x3, x4, x5] 27)) := by exact zw
  have hsz : ((((w.alloc (.cells #[x0, x1, x2, x3, x4, x5] 27)).alloc (.cells #[.int .i64 0] 28)).alloc (.cells #[.int .i64 0] 3)).alloc (.cells #[x0, x1, x2, x3, x4, x5] 27)).heap.size = w.heap.size + 4 := by simp
  obtain ⟨W0, hW0⟩ : ∃ W0, (((w.alloc (.cells #[x0, x1, x2, x3, x4, x5] 27)).alloc (.cells #[.int .i64 0] 28)).alloc (.cells #[.int .i64 0] 3)).alloc (.cells #[x0, x1, x2, x3, x4, x5] 27) = W0 := ⟨_, rfl⟩
  rw [hW0] at bY bN hBx hB0 hsz ⊢
  clear hW0
  refine wpIn_rangeFunc_ownH hro h1 (gf := 65) (lb := #[.pointer (some ⟨w.heap.size + 1 + 1 + 1, 0, none⟩)]) rfl trivial (enters_of Tryz.func65 (by kernel_rfl) rfl)
    (visits_told Fence.wide rfl (n - 1) trivial trivial hro (w.heap.size + 1 + 1 + 1) (w.heap.size + 2) (sizeD T).toNat T x0 x1 x2 x3 x4 x5 bs w W0 hBx hN hwf hB0 (fun h => by have := hbd _ h; omega) (by omega) (by omega) (by omega)) KS_t (fun W l o o' _ h ho _ => KS_b W l o o' h ho) (Below.refl _ _) (fun _ => rfl)
    (fun pre W => ((Boxed W (w.heap.size + 2) 3 (.int .i64 (pre.length : Nat)) ∧ Boxed W (w.heap.size + 1) 28 (.int .i64 0)) ∧ seen pre = 0) ∧ Below w.heap.size w W)
    (fun c pre W => ((Boxed W (w.heap.size + 1) 28 (.int .i64 (seen pre))) ∧ c = .ret ∧ seen pre ≠ 0) ∧ Below w.heap.size w W)
    (OwnFrom.and (OwnFrom.and (OwnFrom.and (Own.from (boxed_own _ _ (fun pre : List (VisT w) => Value.int .i64 (pre.length : Nat))) _) (Own.from (boxed_own _ _ _) _)) (ownFrom_pure _ _)) (ownFrom_below (Nat.le_refl _) (by omega)))
    (fun c => OwnFrom.and (OwnFrom.and (Own.from (boxed_own _ _ (fun pre : List (VisT w) => Value.int .i64 (seen pre))) _) (ownFrom_pure _ _)) (ownFrom_below (Nat.le_refl _) (by omega)))
    ⟨⟨⟨bN, bY⟩, rfl⟩, hB0⟩
    (fun x a' W => ∃ Bx, w.heap.size + 2 < Bx ∧ W.heap[Bx]? = some (.cells x.1.2.1 27 (0, 0)) ∧ a' = { tmps := #[.agg #[x0, x1, x2, x3, x4, x5], .pointer (some ⟨w.heap.size, 0, none⟩), .pointer (some ⟨w.heap.size + 1, 0, none⟩), .pointer (some ⟨w.heap.size + 1 + 1, 0, none⟩), .int .i64 x.1.1.1, .pointer (some ⟨Bx, 0, none⟩), undef, .agg #[x0, x1, x2, x3, x4, x5], .func (.func 65) #[] #[.pointer (some ⟨w.heap.size + 1 + 1 + 1, 0, none⟩)], .int .i64 x.1.1.1, .agg x.1.2.1, undef, undef, undef, undef, undef, undef, undef, undef, undef, undef, undef, undef, undef, undef, undef, undef, undef], defers := [] })
    (fun x a' _ X Y row hs hg hr => by
      obtain ⟨Bx, h1, h2, h3⟩ := hs
      exact ⟨Bx, h1, (hg.block Bx (Array.getElem?_eq_some_iff.1 h2).1 (fun e' => by obtain ⟨o, ho, hc⟩ := (hr Bx e'.symm).2; rw [h2] at ho; cases ho; cases hc)).trans h2, h3⟩)
    ?assign ?body ?done ?stop
  case assign =>
    rintro l pre ⟨⟨⟨lv, T'⟩, cs, bs'⟩, ⟨⟨hl1, hl2⟩, hw'⟩, hN'⟩ W K ⟨⟨⟨b1, b2⟩, hE⟩, hB1⟩ hK
    obtain ⟨kd, nn, u, s, A1, m1, c1, A2, m2, c2, hcs⟩ := (NRep.reads _ _ _ hN').cs6
    obtain ⟨cs⟩ := cs
    obtain rfl : cs = _ := hcs
    unfold visT
    dsimp only
    gi_wp2
    have hz := hB1.size
    exact hK _ _ ((KeepsOthers.alloc _ _).from _) (KS_below ((Below.refl _ _).alloc (Nat.le_refl _) _)) ⟨⟨⟨b1.alloc _, b2.alloc _⟩, hE⟩, hB1.alloc hz _⟩ ⟨W.heap.size, b1.lt, heap_alloc_new _ _, rfl⟩
  case body =>
    rintro l pre ⟨⟨⟨lv, T'⟩, cs, bs'⟩, ⟨⟨hl1, hl2⟩, hw'⟩, hN'⟩ a' W hl - ⟨⟨⟨b1, b2⟩, hE⟩, hB1⟩ ⟨Bx, hBxl, hrow, rfl⟩ hlen
    obtain ⟨kd, nn, u, s, A1, m1, c1, A2, m2, c2, hcs⟩ := (NRep.reads _ _ _ hN').cs6
    obtain ⟨cs⟩ := cs
    obtain rfl : cs = _ := hcs
    obtain ⟨kd', nn', u', s', ks', l'⟩ := T'
    have hR : RRep w (.mk kd' nn' u' s' ks' l') [.int .i64 kd, .int .i64 nn, .int .u64 u, .string s, .slice A1 m1 c1, .slice A2 m2 c2] := NRep.reads _ _ _ hN'
    rw [WfD] at hw'
    have hkl := hw'.2.2.2.2.1
    have HS := Lib.hid (fun (V : World) (hV : Below w.heap.size w V) => such_any kd' nn' u' s' ks' l' V _ _ _ _ _ _ (RRep.below hV _ _ hR))
    have HK := Lib.hid (fun (V : World) (hV : Below w.heap.size w V) => keyed_any kd' nn' u' s' ks' l' V _ _ _ _ _ _ (RRep.below hV _ _ hR) hkl)
    obtain ⟨X, hX⟩ : ∃ X : VisT w, X = ⟨⟨⟨lv, .mk kd' nn' u' s' ks' l'⟩, ⟨[.int .i64 kd, .int .i64 nn, .int .u64 u, .string s, .slice A1 m1 c1, .slice A2 m2 c2]⟩, bs'⟩, ⟨⟨hl1, hl2⟩, by rw [WfD]; exact hw'⟩, hN'⟩ := ⟨_, rfl⟩
    have hsn := seen_snoc pre X hE
    have hX1 : X.1.1.1 = lv := by rw [hX]
    have hX2 : X.1.1.2 = .mk kd' nn' u' s' ks' l' := by rw [hX]
    rw [hX1, hX2] at hsn
    dsimp only
    rw [← hX]
    have HSN := Lib.hid hsn
    generalize hsu : suchD (.mk kd' nn' u' s' ks' l') = su at *
    generalize hke : keyedD (.mk kd' nn' u' s' ks' l') = ke at *
    have HST := Lib.hid (show stepD (pre.length + 1) lv (.mk kd' nn' u' s' ks' l') = if 4096 < (pre.length : Int) + 1 then 5 else if 64 ≤ lv then 61 else if su = false then 60 else ke by unfold stepD; rw [hsu, hke])
    obtain ⟨n0, n1, n2, n3, n4, n5⟩ := cells6 hrow
    have cN := b1.cell
    have fN := b1.frozen
    have gN := b1.lt
    have cY := b2.cell
    have fY := b2.frozen
    have gY := b2.lt
    have gB : Bx < W.heap.size := (Array.getElem?_eq_some_iff.1 hrow).1
    have HB := Lib.hid hB1
    have HB1 := Lib.hid b1
    have HB2 := Lib.hid b2
    clear hsn hX1 hX2 hR hkl hw' hsu hke hX hE hB1 b1 b2 hrow hN'
    have hpl : (pre.length : Int) + 1 ≤ 1073741825 := by omega
    have h1' : 1 ≤ n - 1 - 1 := by omega
    have HBS := Lib.hid (HB.out.setCell (p := ⟨w.heap.size + 1 + 1, 0, none⟩) (by show w.heap.size ≤ w.heap.size + 1 + 1; omega) (.int .i64 ((pre.length : Int) + 1)))
    by_cases e1 : 4096 < (pre.length : Int) + 1
    · have hv : seen (pre ++ [X]) = 5 := by rw [HSN.out, HST.out, if_pos e1]
      have HV := Lib.hid hv
      clear hv
      gi_wp2
      exact ⟨((KeepsOthers.setCell _ _ _).trans (KeepsOthers.setCell _ _ _)).from _, ⟨by rw [HV.out]; exact (HB2.out.other (by omega) _).set _, rfl, by rw [HV.out]; decide⟩, HBS.out.setCell (p := ⟨w.heap.size + 1, 0, none⟩) (by simp) _⟩
    · have e1' : (pre.length : Int) + 1 ≤ 4096 := by omega
      have e1'' : (pre.length : Int) < 4096 := by omega
      have e1''' : pre.length < 4096 := by omega
      by_cases e2 : 64 ≤ lv
      · have hv : seen (pre ++ [X]) = 61 := by rw [HSN.out, HST.out, if_neg e1, if_pos e2]
        have HV := Lib.hid hv
        clear hv
        gi_wp2
        exact ⟨((KeepsOthers.setCell _ _ _).trans (KeepsOthers.setCell _ _ _)).from _, ⟨by rw [HV.out]; exact (HB2.out.other (by omega) _).set _, rfl, by rw [HV.out]; decide⟩, HBS.out.setCell (p := ⟨w.heap.size + 1, 0, none⟩) (by simp) _⟩
      · have e2' : lv < 64 := by omega
        cases su with
        | false =>
          have hv : seen (pre ++ [X]) = 60 := by rw [HSN.out, HST.out, if_neg e1, if_neg e2, if_pos rfl]
          have HV := Lib.hid hv
          clear hv
          gi_wp2_with (refine ⟨trivial, ?_⟩; gi_at_call 44; refine (CallsIn.inRound l (callsIn_wide.2 (HS.out _ HBS.out))).mono ?_; rintro e w1 ⟨rfl, hb1⟩; obtain ⟨hc1, hf1, hl1⟩ := bcell hb1; (try simp only [zsz] at hc1 hf1 hl1); have HB3 := Lib.hid hb1; have gB1 := hl1 _ gB; have gY1 := hl1 _ gY; have gN1 := hl1 _ gN; clear hb1 hl1)
          exact ⟨(((KeepsOthers.setCell _ _ _).trans (others_below HB3.out)).trans (KeepsOthers.setCell _ _ _)).from _, ⟨by rw [HV.out]; exact Boxed.set _ (Boxed.below (Boxed.other (B' := w.heap.size + 1 + 1) HB2.out (by omega) _) HB3.out), rfl, by rw [HV.out]; decide⟩, (HBS.out.trans (HB3.out.mono (Nat.le_trans HB.out.size (Nat.le_of_eq (World.size_setCell _ _ _).symm)))).setCell (p := ⟨w.heap.size + 1, 0, none⟩) (by simp) _⟩
        | true =>
          have hv : seen (pre ++ [X]) = ke := by rw [HSN.out, HST.out, if_neg e1, if_neg e2, if_neg (by decide)]
          have HV := Lib.hid hv
          clear hv
          by_cases e3 : ke = 0
          · subst e3
            gi_wp2_with (first | (refine ⟨trivial, ?_⟩; gi_at_call 44; refine (CallsIn.inRound l (callsIn_wide.2 (HS.out _ HBS.out))).mono ?_; rintro e w1 ⟨rfl, hb1⟩; obtain ⟨hc1, hf1, hl1⟩ := bcell hb1; (try simp only [zsz] at hc1 hf1 hl1); have HB3 := Lib.hid hb1; have gB1 := hl1 _ gB; have gY1 := hl1 _ gY; have gN1 := hl1 _ gN; clear hb1 hl1) | (refine ⟨trivial, ?_⟩; gi_at_call 45; refine (CallsIn.inRound l (callsIn_wide.2 (HK.out _ (HBS.out.trans (HB3.out.mono (Nat.le_trans HB.out.size (Nat.le_of_eq (World.size_setCell _ _ _).symm))))))).mono ?_; rintro e w2 ⟨rfl, hb2⟩; obtain ⟨hc2, hf2, hl2⟩ := bcell hb2; (try simp only [zsz] at hc2 hf2 hl2); have HB4 := Lib.hid hb2; have gB2 := hl2 _ gB1; have gY2 := hl2 _ gY1; clear hb2 hl2))
            exact ⟨(((KeepsOthers.setCell _ _ _).trans (others_below HB3.out)).trans (others_below HB4.out)).from _, KS_t (KS_set _ _ _) (KS_t (KS_below HB3.out) (KS_below HB4.out)), ⟨⟨by rw [List.length_append, List.length_singleton]; push_cast; exact Boxed.below (Boxed.below (Boxed.set _ HB1.out) HB3.out) HB4.out, Boxed.below (Boxed.below (Boxed.other (B' := w.heap.size + 1 + 1) HB2.out (by omega) _) HB3.out) HB4.out⟩, HV.out⟩, (HBS.out.trans (HB3.out.mono (Nat.le_trans HB.out.size (Nat.le_of_eq (World.size_setCell _ _ _).symm)))).trans (HB4.out.mono (Nat.le_trans (Nat.le_trans HB.out.size (Nat.le_of_eq (World.size_setCell _ _ _).symm)) HB3.out.size))⟩
          · have E3 := Lib.hid e3
            have b3 : (ke != 0) = true := by simp [e3]
            clear e3
            gi_wp2_with (first | (refine ⟨trivial, ?_⟩; gi_at_call 44; refine (CallsIn.inRound l (callsIn_wide.2 (HS.out _ HBS.out))).mono ?_; rintro e w1 ⟨rfl, hb1⟩; obtain ⟨hc1, hf1, hl1⟩ := bcell hb1; (try simp only [zsz] at hc1 hf1 hl1); have HB3 := Lib.hid hb1; have gB1 := hl1 _ gB; have gY1 := hl1 _ gY; have gN1 := hl1 _ gN; clear hb1 hl1) | (refine ⟨trivial, ?_⟩; gi_at_call 45; refine (CallsIn.inRound l (callsIn_wide.2 (HK.out _ (HBS.out.trans (HB3.out.mono (Nat.le_trans HB.out.size (Nat.le_of_eq (World.size_setCell _ _ _).symm))))))).mono ?_; rintro e w2 ⟨rfl, hb2⟩; obtain ⟨hc2, hf2, hl2⟩ := bcell hb2; (try simp only [zsz] at hc2 hf2 hl2); have HB4 := Lib.hid hb2; have gB2 := hl2 _ gB1; have gY2 := hl2 _ gY1; clear hb2 hl2))
            exact ⟨((((KeepsOthers.setCell _ _ _).trans (others_below HB3.out)).trans (others_below HB4.out)).trans (KeepsOthers.setCell _ _ _)).from _, ⟨by rw [HV.out]; exact Boxed.set _ (Boxed.below (Boxed.below (Boxed.other (B' := w.heap.size + 1 + 1) HB2.out (by omega) _) HB3.out) HB4.out), rfl, by rw [HV.out]; exact E3.out⟩, ((HBS.out.trans (HB3.out.mono (Nat.le_trans HB.out.size (Nat.le_of_eq (World.size_setCell _ _ _).symm)))).trans (HB4.out.mono (Nat.le_trans (Nat.le_trans HB.out.size (Nat.le_of_eq (World.size_setCell _ _ _).symm)) HB3.out.size))).setCell (p := ⟨w.heap.size + 1, 0, none⟩) (by simp) _⟩
  case done =>
    rintro D ys W hD hys ⟨⟨⟨b1, b2⟩, hE⟩, hB1⟩ hK
    have hc : chkD T = 0 := by
      unfold chkD
      rw [← hys]
      exact hE
    have c2 := b2.cell
    have f2 := b2.frozen
    have g2 := b2.lt
    gi_wp2
    have hK' := (KeepsOthers.setCell W ⟨w.heap.size + 1, 0, none⟩ (.int .i64 0)).same D _ hK rfl
    refine ⟨by simp, .inl ⟨_, _, rfl, run_takeDeferred hK', ?_⟩⟩
    have hc5 := cell_kept (World.cell?_setCell_same' W ⟨w.heap.size + 1, 0, none⟩ (.int .i64 0) (by rw [c2]; rfl)) (grownBy_putObj' _ D (.deferred none)) (fun r e => by cases e; exact ⟨_, hK', rfl⟩)
    refine ⟨.int .i64 0, ?_, by rw [hc], (hB1.setCell (p := ⟨w.heap.size + 1, 0, none⟩) (by simp) _).trans (belowK_b (w := w) (Nat.le_refl _) _ D _ _ (by omega) hK' rfl rfl)⟩
    simp [results, Tryz.f21, Tryz.results21, go_sem, hc5]
  case stop =>
    rintro D c pre W hD ⟨r, hr⟩ ⟨⟨b1, rfl, hE⟩, hB1⟩ hK
    have hc : chkD T = seen pre := by
      unfold chkD
      rw [← hr]
      exact fold_pre hE
    have c2 := b1.cell
    have f2 := b1.frozen
    have g2 := b1.lt
    gi_wp2
    refine ⟨by simp, .inl ⟨_, _, rfl, run_takeDeferred hK, ?_⟩⟩
    have hc5 := cell_kept c2 (grownBy_putObj' _ D (.deferred none)) (fun r e => by cases e; exact ⟨_, hK, rfl⟩)
    refine ⟨.int .i64 (seen pre), ?_, by rw [hc], hB1.trans (belowK_b (w := w) (Nat.le_refl _) _ D _ _ (by omega) hK rfl rfl)⟩
    simp [results, Tryz.f21, Tryz.results21, go_sem, hc5]
/-- tree.Check. -/
theorem tcheck_any (T : DT) (x0 x1 x2 x3 x4 x5 : Value) (bs : List Nat) (w : World) (hN : NRep w T [x0, x1, x2, x3, x4, x5] bs) (hwf : WfD T) (hs : sizeD T ≤ 1073741824) :
    Calls Tryz.prog 21 #[.agg #[x0, x1, x2, x3, x4, x5]] w fun e W' => e = .returned (.int .i64 (chkD T)) ∧ Below w.heap.size w W' :=
  callsIn_wide.1 (check_in 6 (Nat.le_refl _) T x0 x1 x2 x3 x4 x5 bs w hN hwf hs)
end Go.Proofs.YtccmhhmdenfecaaGreatDoor
