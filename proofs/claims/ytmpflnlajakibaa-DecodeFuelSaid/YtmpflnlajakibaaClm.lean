/- The walk of decode.Tree and Doc. The walk of decode.Doc. -/
import Derived.Test.YtmpflnlajakibaaCk
namespace Go.Proofs.Ytmpflnlajakibaa
set_option linter.unusedVariables false
set_option linter.unusedSimpArgs false
set_option linter.unusedSectionVars false
section
open Go.RowKit
/-- The end of Tree and of Doc. -/
def TPost (w : World) (r : DO) (en : Ending) (w' : World) : Prop :=
  ∃ kd nn u s A1 m1 c1 A2 m2 c2 bs, en = .returned (.tuple #[.agg #[.int .i64 kd, .int .i64 nn, .int .u64 u, .string s, .slice A1 m1 c1, .slice A2 m2 c2], .int .i64 r.2.1, .int .i64 r.2.2.1, .int .i64 r.2.2.2]) ∧
    NRep w' r.1 [.int .i64 kd, .int .i64 nn, .int .u64 u, .string s, .slice A1 m1 c1, .slice A2 m2 c2] bs ∧ bs.Nodup ∧ (∀ i ∈ bs, w.heap.size ≤ i) ∧ Below w.heap.size w w'
theorem zero_rep (w : World) : NRep w zeroT [.int .i64 0, .int .i64 0, .int .u64 0, .string ⟨#[]⟩, .slice none 0 0, .slice none 0 0] [] := by
  unfold zeroT
  rw [NRep]
  exact ⟨.slice none 0 0, .slice none 0 0, [], [], rfl, ⟨rfl, .inl ⟨rfl, rfl⟩⟩, ⟨rfl, .inl ⟨rfl, rfl⟩⟩, by rw [NReps]; exact ⟨rfl, rfl⟩, by simp [blkL, Value.ownBlock]⟩
theorem tpost_zero {w w' : World} {x a e : Int} (hb : Below w.heap.size w w') : TPost w (zeroT, x, a, e) (.returned (.tuple #[.agg #[.int .i64 0, .int .i64 0, .int .u64 0, .string ⟨#[]⟩, .slice none 0 0, .slice none 0 0], .int .i64 x, .int .i64 a, .int .i64 e])) w' :=
  ⟨_, _, _, _, _, _, _, _, _, _, [], rfl, zero_rep w', by simp, by simp, hb⟩
theorem tpost_ok6 {w W : World} {B Y : Nat} {kd nn u f : Int} {s : List UInt8} {ks : List (List UInt8)} {l : List DT} {A1 A2 : Option Addr} {m1 c1 m2 c2 : Nat} {xs : List Value} {bl : List Nat} {v0 v1 v2 v3 v4 v5 : Value} (hk : Kids W B ks l (.slice A1 m1 c1) (.slice A2 m2 c2) xs bl) (hB : w.heap.size ≤ B) (hY : Y < B) (hYw : w.heap.size ≤ Y) (hb : Below w.heap.size w W) :
    TPost w (.mk kd nn u s ks l, f, 0, 0) (.returned (.tuple #[.agg #[.int .i64 kd, .int .i64 nn, .int .u64 u, .string ⟨s.toArray⟩, .slice A1 m1 c1, .slice A2 m2 c2], .int .i64 f, .int .i64 0, .int .i64 0])) ((((((W.setCell ⟨Y, 0, none⟩ v0).setCell ⟨Y, 1, none⟩ v1).setCell ⟨Y, 2, none⟩ v2).setCell ⟨Y, 3, none⟩ v3).setCell ⟨Y, 4, none⟩ v4).setCell ⟨Y, 5, none⟩ v5).drew := by
  have ht := (touch6 (w := W) (Y := Y) v0 v1 v2 v3 v4 v5).trans (Touch.drew _ _)
  have hk2 := hk.same fun i hi => ht.block i (hk.lt i hi) (by have := hk.ge i hi; simp; omega)
  refine ⟨_, _, _, _, _, _, _, _, _, _, blkL (.slice A1 m1 c1) ++ (blkL (.slice A2 m2 c2) ++ bl), rfl, ?_, hk2.nd, fun i hi => by have := hk2.ge i hi; omega, hb.trans ⟨ht.os, ht.tape, ht.output, ht.size, fun i hi => ht.block i (by have := hb.size; omega) (by simp; omega)⟩⟩
  rw [NRep]
  exact ⟨_, _, xs, bl, rfl, hk2.k, hk2.r, hk2.n, rfl⟩
theorem touch_lk_below {w wn w1 : World} {lk : Nat} (hb : Below w.heap.size w wn) (ht : Touch [lk] wn w1) (hl : w.heap.size ≤ lk) : Below w.heap.size w w1 :=
  hb.trans ⟨ht.os, ht.tape, ht.output, by have := hb.size; have := ht.size; omega, fun i hi => ht.block i (by have := hb.size; omega) (by simp; omega)⟩
section
variable {w : World} {b o n cap : Nat} {D : List UInt8}
set_option maxHeartbeats 8000000 in
theorem dtree_doc (hD : Doc w b o n cap D) (p q t k dp fuel : Int) (hfu : fuel ≤ 1073741824) :
    Calls Try.prog 19 #[.slice (some ⟨b, o, none⟩) n cap, .agg #[.int .i64 p, .int .i64 q, .int .i64 t, .int .i64 k], .int .i64 dp, .int .i64 fuel] w (TPost w (treeD D dp fuel p q t k)) := by
  obtain ⟨hn1, hn2⟩ := hD.bd
  have hbw := hD.lt
  have hlen := hD.len
  have HM := fun W (hW : Doc W b o n cap D) => Lib.hid (may_any b o n cap D p q t k W hW)
  unfold treeD
  by_cases hm : mayE n p q t k = 0
  rotate_left
  · rw [hlen, if_pos hm]
    have hm1 : (mayE n p q t k != 0) = true := by simpa using hm
    clear hm
    go_enter Try.func19, Try.ntmps19
    go_wp2_with (go_at_call 32; refine ((HM _ (hD.below zw)).out).mono ?_; rintro e w1 ⟨rfl, hb1⟩; obtain ⟨hc1, hf1, hl1⟩ := bcell hb1; (try simp only [zdz] at hc1 hf1 hl1); have hz1 := hb1.size; (try simp only [zsz] at hz1); (try have g0 : w.heap.size < w1.heap.size := by omega); (try have g1 : w.heap.size + 1 < w1.heap.size := by omega); (try have g2 : w.heap.size + 2 < w1.heap.size := by omega); (try have gb : b < w1.heap.size := by omega); (try have g3 : w.heap.size + 3 < w1.heap.size := by omega); (try have hbb : Below w.heap.size w w1 := zw); (try obtain ⟨hco, hfo, _⟩ := bcell hbb); (try have hb1 := hb1))
    refine bodyPost_ret (v := .tuple #[.agg #[.int .i64 0, .int .i64 0, .int .u64 0, .string ⟨#[]⟩, .slice none 0 0, .slice none 0 0], .int .i64 0, .int .i64 0, .int .i64 (mayE n p q t k)]) (by simp [results, Try.results19, go_sem, *]) rfl ?_
    exact tpost_zero zw
  rw [hlen, if_neg (by simpa using hm)]
  have HM2 := fun W (hW : Doc W b o n cap D) => Lib.hid (hm ▸ may_any b o n cap D p q t k W hW : Calls Try.prog 32 #[.slice (some ⟨b, o, none⟩) n cap, .agg #[.int .i64 p, .int .i64 q, .int .i64 t, .int .i64 k]] W fun e w' => e = .returned (.int .i64 0) ∧ Below W.heap.size W w')
  have hmx : 0 ≤ max fuel 0 ∧ max fuel 0 ≤ 1073741824 := by omega
  obtain ⟨hmx0, hmx1⟩ := hmx
  have HND := Lib.hid (fun W L a' (hW : DSt 76 W L b o n cap D dp (max fuel 0) a' 0) => dnode (max fuel 0).toNat (by omega) W (max fuel 0) a' p q t k p 1 hW hmx0 (by omega) (by omega) (by omega) hm)
  clear HM hm
  generalize decN D dp (max fuel 0).toNat p q t k p 1 (max fuel 0) = res at *
  generalize hF : max fuel 0 = F at *
  go_enter Try.func19, Try.ntmps19
  go_upto_region 5 with (go_at_call 32; refine ((HM2 _ (hD.below zw)).out).mono ?_; rintro e w1 ⟨rfl, hb1⟩; obtain ⟨hc1, hf1, hl1⟩ := bcell hb1; (try simp only [zdz] at hc1 hf1 hl1); have hz1 := hb1.size; (try simp only [zsz] at hz1); (try have g0 : w.heap.size < w1.heap.size := by omega); (try have g1 : w.heap.size + 1 < w1.heap.size := by omega); (try have g2 : w.heap.size + 2 < w1.heap.size := by omega); (try have gb : b < w1.heap.size := by omega); (try have g3 : w.heap.size + 3 < w1.heap.size := by omega); (try have hbb : Below w.heap.size w w1 := zw); (try obtain ⟨hco, hfo, _⟩ := bcell hbb); (try have hb1 := hb1))
  refine wp_named (fun wn => DSt 76 wn w1.heap.size b o n cap D dp F 0 0 ∧ Below w.heap.size w wn ∧ w.heap.size + 1 < w1.heap.size ∧ w1.heap.size < wn.heap.size ∧ wn.heap[w.heap.size]? = some (.cells #[.int .i64 p, .int .i64 q, .int .i64 t, .int .i64 k] 39 (0, 0)) ∧ wn.heap[w.heap.size + 1]? = some (.cells #[.int .i64 0, .int .i64 0, .int .u64 0, .string ⟨#[]⟩, .slice none 0 0, .slice none 0 0] 44 (0, 0))) ⟨⟨heap_alloc_new _ _, hD.below zw, by omega⟩, by exact zw, by omega, by simp, ((((Below.refl w1.heap.size w1).alloc (Nat.le_refl _) _).block _ (by omega)).trans (hb1.block _ (by simp; omega))).trans (heap_made_1 _ _ _), ((((Below.refl w1.heap.size w1).alloc (Nat.le_refl _) _).block _ (by omega)).trans (hb1.block _ (by simp))).trans (heap_made_2 _ _ _)⟩ ?_
  clear hb1 hc1 hf1 hl1 hz1
  generalize w1.heap.size = L
  rintro wn ⟨hKn, hbn, hL, hLn, hXb, hYb⟩
  have z0 : wn.cell? ⟨w.heap.size, 0, none⟩ = some (.int .i64 p) := cell_of_row _ _ _ _ _ _ hXb
  have z1 : wn.cell? ⟨w.heap.size, 1, none⟩ = some (.int .i64 q) := cell_of_row _ _ _ _ _ _ hXb
  have z2 : wn.cell? ⟨w.heap.size, 2, none⟩ = some (.int .i64 t) := cell_of_row _ _ _ _ _ _ hXb
  have z3 : wn.cell? ⟨w.heap.size, 3, none⟩ = some (.int .i64 k) := cell_of_row _ _ _ _ _ _ hXb
  go_wp2_with fail
  refine (HND.out _ _ _ hKn).mono ?_
  intro e w1 hp
  obtain ⟨kd1, nn1, uu1, s1, B1, m1, d1, B2, m2, d2, rfl, ht1, -, hp⟩ := npost_shape hp
  have hnY : w.heap.size + 1 ∉ [L] := by simp; omega
  have hY : w.heap.size + 1 < wn.heap.size := by omega
  have hY1 := (ht1.block _ hY hnY).trans hYb
  have hs1 := ht1.size
  have hbw1 := touch_lk_below hbn ht1 (by omega)
  have hfz := fun (j : Nat) => frozen_of_row _ _ j _ _ hY1
  have n0 : w1.cell? ⟨w.heap.size + 1, 0, none⟩ = some (.int .i64 0) := cell_of_row _ _ _ _ _ _ hY1
  have n1 : w1.cell? ⟨w.heap.size + 1, 1, none⟩ = some (.int .i64 0) := cell_of_row _ _ _ _ _ _ hY1
  have n2 : w1.cell? ⟨w.heap.size + 1, 2, none⟩ = some (.int .u64 0) := cell_of_row _ _ _ _ _ _ hY1
  have n3 : w1.cell? ⟨w.heap.size + 1, 3, none⟩ = some (.string ⟨#[]⟩) := cell_of_row _ _ _ _ _ _ hY1
  have n4 : w1.cell? ⟨w.heap.size + 1, 4, none⟩ = some (.slice none 0 0) := cell_of_row _ _ _ _ _ _ hY1
  have n5 : w1.cell? ⟨w.heap.size + 1, 5, none⟩ = some (.slice none 0 0) := cell_of_row _ _ _ _ _ _ hY1
  have hLY : L ≠ w.heap.size + 1 := by omega
  clear z0 z1 z2 z3 hXb hYb HND
  rcases res with ⟨ae, ee⟩ | ⟨⟨kd, nn, u, s, ks, l⟩, f⟩
  · obtain ⟨_, _, _, _, _, _, _, _, _, _, f, -, he0, hd1, -⟩ := hp
    have q3 := hd1.c3
    have q4 := hd1.c4
    have he1 : (ee != 0) = true := by simpa using he0
    clear hd1 hKn he0
    go_upto_region 7 with fail
    refine wp_named (fun wx => wx.cell? ⟨L, 3, none⟩ = some (.int .i64 ae) ∧ wx.cell? ⟨L, 4, none⟩ = some (.int .i64 ee) ∧ Below w.heap.size w wx ∧ ∃ u0 u1 u2 u3 u4 u5, wx.heap[w.heap.size + 1]? = some (.cells #[u0, u1, u2, u3, u4, u5] 44 (0, 0))) ⟨by go_simp, by go_simp, by exact zw, _, _, _, _, _, _, (heap_setCell_same _ _ _ _ _ _ (heap_setCell_same _ _ _ _ _ _ (heap_setCell_same _ _ _ _ _ _ (heap_setCell_same _ _ _ _ _ _ (heap_setCell_same _ _ _ _ _ _ (heap_setCell_same _ _ _ _ _ _ hY1)))))).trans rfl⟩ ?_
    clear q3 q4 n0 n1 n2 n3 n4 n5 hfz hs1 hY
    rintro wx ⟨q3, q4, hbx, u0, u1, u2, u3, u4, u5, hYx⟩
    have hfz := fun (j : Nat) => frozen_of_row _ _ j _ _ hYx
    have n0 : wx.cell? ⟨w.heap.size + 1, 0, none⟩ = some u0 := cell_of_row _ _ _ _ _ _ hYx
    have n1 : wx.cell? ⟨w.heap.size + 1, 1, none⟩ = some u1 := cell_of_row _ _ _ _ _ _ hYx
    have n2 : wx.cell? ⟨w.heap.size + 1, 2, none⟩ = some u2 := cell_of_row _ _ _ _ _ _ hYx
    have n3 : wx.cell? ⟨w.heap.size + 1, 3, none⟩ = some u3 := cell_of_row _ _ _ _ _ _ hYx
    have n4 : wx.cell? ⟨w.heap.size + 1, 4, none⟩ = some u4 := cell_of_row _ _ _ _ _ _ hYx
    have n5 : wx.cell? ⟨w.heap.size + 1, 5, none⟩ = some u5 := cell_of_row _ _ _ _ _ _ hYx
    clear hYx
    go_region_held3 (fun w' => w'.cell? ⟨L, 3, none⟩ = some (.int .i64 ae) ∧ w'.cell? ⟨L, 4, none⟩ = some (.int .i64 ee)) (first | (with_reducible exact ⟨q3, q4⟩) | (refine ⟨?_, ?_⟩ <;> go_simp)) (fail)
    all_goals go_wp2
    all_goals refine bodyPost_ret (v := .tuple #[.agg #[.int .i64 0, .int .i64 0, .int .u64 0, .string ⟨#[]⟩, .slice none 0 0, .slice none 0 0], .int .i64 0, .int .i64 ae, .int .i64 ee]) (by simp [results, Try.results19, go_sem, *]) rfl ?_
    all_goals exact tpost_zero zw
  · obtain ⟨kv, lv, xs, bl, a', he, o1, o2, o3, nd, ge, hd1, -⟩ := hp
    injection he with he
    injection he with he
    simp only [Array.mk.injEq, List.cons.injEq, Value.int.injEq, Value.string.injEq, true_and, and_true] at he
    obtain ⟨rfl, rfl, rfl, rfl, rfl, rfl⟩ := he
    have hk : Kids w1 wn.heap.size ks l (.slice B1 m1 d1) (.slice B2 m2 d2) xs bl := ⟨o1, o2, o3, nd, ge⟩
    have HKK := Lib.hid hk
    obtain ⟨_, _, e1⟩ := owns_ptr o1
    obtain ⟨_, _, e2⟩ := owns_ptr o2
    simp only [Value.slice.injEq] at e1 e2
    obtain ⟨-, rfl, -⟩ := e1
    obtain ⟨-, rfl, -⟩ := e2
    have q2 := hd1.c2
    have q4 := hd1.c4
    clear hd1 hKn o1 o2 o3 nd hk
    go_upto_region 8 with fail
    refine wp_named (fun wx => wx.cell? ⟨L, 2, none⟩ = some (.int .i64 f) ∧ Below w.heap.size w wx ∧ Kids wx wn.heap.size ks l (.slice B1 ks.length d1) (.slice B2 l.length d2) xs bl ∧ wx.heap[w.heap.size + 1]? = some (.cells #[.int .i64 kd1, .int .i64 nn1, .int .u64 uu1, .string ⟨s.toArray⟩, .slice B1 ks.length d1, .slice B2 l.length d2] 44 (0, 0))) ⟨by go_simp, by exact zw, HKK.out.same (fun i hi => (touch6 _ _ _ _ _ _).block i (HKK.out.lt i hi) (by have := ge i hi; simp; omega)), ((heap_setCell_same _ _ _ _ _ _ (heap_setCell_same _ _ _ _ _ _ (heap_setCell_same _ _ _ _ _ _ (heap_setCell_same _ _ _ _ _ _ (heap_setCell_same _ _ _ _ _ _ (heap_setCell_same _ _ _ _ _ _ hY1))))))).trans rfl⟩ ?_
    clear q2 q4 n0 n1 n2 n3 n4 n5 hfz hs1 hY1 HKK ge
    rintro wx ⟨q2, hbx, hkx, hYx⟩
    have HKK := Lib.hid hkx
    have hfz := fun (j : Nat) => frozen_of_row _ _ j _ _ hYx
    have n0 : wx.cell? ⟨w.heap.size + 1, 0, none⟩ = some (.int .i64 kd1) := cell_of_row _ _ _ _ _ _ hYx
    have n1 : wx.cell? ⟨w.heap.size + 1, 1, none⟩ = some (.int .i64 nn1) := cell_of_row _ _ _ _ _ _ hYx
    have n2 : wx.cell? ⟨w.heap.size + 1, 2, none⟩ = some (.int .u64 uu1) := cell_of_row _ _ _ _ _ _ hYx
    have n3 : wx.cell? ⟨w.heap.size + 1, 3, none⟩ = some (.string ⟨s.toArray⟩) := cell_of_row _ _ _ _ _ _ hYx
    have n4 : wx.cell? ⟨w.heap.size + 1, 4, none⟩ = some (.slice B1 ks.length d1) := cell_of_row _ _ _ _ _ _ hYx
    have n5 : wx.cell? ⟨w.heap.size + 1, 5, none⟩ = some (.slice B2 l.length d2) := cell_of_row _ _ _ _ _ _ hYx
    clear hYx hkx
    go_region_held3 (fun w' => w'.cell? ⟨L, 2, none⟩ = some (.int .i64 f) ∧ w'.cell? ⟨w.heap.size + 1, 0, none⟩ = some (.int .i64 kd1) ∧ w'.cell? ⟨w.heap.size + 1, 1, none⟩ = some (.int .i64 nn1) ∧ w'.cell? ⟨w.heap.size + 1, 2, none⟩ = some (.int .u64 uu1) ∧ w'.cell? ⟨w.heap.size + 1, 3, none⟩ = some (.string ⟨s.toArray⟩) ∧ w'.cell? ⟨w.heap.size + 1, 4, none⟩ = some (.slice B1 ks.length d1) ∧ w'.cell? ⟨w.heap.size + 1, 5, none⟩ = some (.slice B2 l.length d2)) (first | (with_reducible exact ⟨q2, n0, n1, n2, n3, n4, n5⟩) | (refine ⟨?_, ?_, ?_, ?_, ?_, ?_, ?_⟩ <;> go_simp)) (fail)
    all_goals go_wp2
    all_goals refine bodyPost_ret (v := .tuple #[.agg #[.int .i64 kd1, .int .i64 nn1, .int .u64 uu1, .string ⟨s.toArray⟩, .slice B1 ks.length d1, .slice B2 l.length d2], .int .i64 f, .int .i64 0, .int .i64 0]) (by simp [results, Try.results19, go_sem, *]) rfl ?_
    exact tpost_ok6 HKK.out (by omega) (by omega) (by omega) hbx
end
end
section
open Go.RowKit
theorem tpost_move {w wz w1 : World} {Y : Nat} {r : DO} {kd nn u : Int} {s : ByteArray} {A1 A2 : Option Addr} {m1 c1 m2 c2 : Nat} {x y z : Int} {v0 v1 v2 v3 v4 v5 : Value} (h : TPost wz r (.returned (.tuple #[.agg #[.int .i64 kd, .int .i64 nn, .int .u64 u, .string s, .slice A1 m1 c1, .slice A2 m2 c2], .int .i64 x, .int .i64 y, .int .i64 z])) w1)
    (hb : Below w.heap.size w wz) (hY : Y < wz.heap.size) (hYw : w.heap.size ≤ Y) :
    TPost w r (.returned (.tuple #[.agg #[.int .i64 kd, .int .i64 nn, .int .u64 u, .string s, .slice A1 m1 c1, .slice A2 m2 c2], .int .i64 x, .int .i64 y, .int .i64 z])) ((((((w1.setCell ⟨Y, 0, none⟩ v0).setCell ⟨Y, 1, none⟩ v1).setCell ⟨Y, 2, none⟩ v2).setCell ⟨Y, 3, none⟩ v3).setCell ⟨Y, 4, none⟩ v4).setCell ⟨Y, 5, none⟩ v5) := by
  obtain ⟨kd', nn', u', s', A1', m1', c1', A2', m2', c2', bs, he, hr, hnd, hge, hb1⟩ := h
  injection he with he
  injection he with he
  simp only [Array.mk.injEq, List.cons.injEq, Value.int.injEq, Value.agg.injEq, Value.string.injEq, Value.slice.injEq, true_and, and_true] at he
  obtain ⟨⟨rfl, rfl, rfl, rfl, ⟨rfl, rfl, rfl⟩, rfl, rfl, rfl⟩, rfl, rfl, rfl⟩ := he
  have ht := touch6 (w := w1) (Y := Y) v0 v1 v2 v3 v4 v5
  have hs := hb.size
  have hs1 := hb1.size
  refine ⟨_, _, _, _, _, _, _, _, _, _, bs, rfl, NRep.same _ _ _ hr (fun i hi => ht.block i (NRep.bd _ _ _ hr i hi) (by have := hge i hi; simp; omega)), hnd, fun i hi => by have := hge i hi; omega, (hb.trans (hb1.mono hs)).trans ⟨ht.os, ht.tape, ht.output, ht.size, fun i hi => ht.block i (by omega) (by simp; omega)⟩⟩
theorem tpost_zero6 {w W : World} {Y : Nat} {x a e : Int} {v0 v1 v2 v3 v4 v5 : Value} (hb : Below w.heap.size w W) (hYw : w.heap.size ≤ Y) : TPost w (zeroT, x, a, e) (.returned (.tuple #[.agg #[.int .i64 0, .int .i64 0, .int .u64 0, .string ⟨#[]⟩, .slice none 0 0, .slice none 0 0], .int .i64 x, .int .i64 a, .int .i64 e])) ((((((W.setCell ⟨Y, 0, none⟩ v0).setCell ⟨Y, 1, none⟩ v1).setCell ⟨Y, 2, none⟩ v2).setCell ⟨Y, 3, none⟩ v3).setCell ⟨Y, 4, none⟩ v4).setCell ⟨Y, 5, none⟩ v5) := by
  have ht := touch6 (w := W) (Y := Y) v0 v1 v2 v3 v4 v5
  exact tpost_zero (hb.trans ⟨ht.os, ht.tape, ht.output, ht.size, fun i hi => ht.block i (by have := hb.size; omega) (by simp; omega)⟩)
section
variable {w : World} {b o n cap : Nat} {D : List UInt8}
set_option maxHeartbeats 8000000 in
theorem ddoc_doc (hD : Doc w b o n cap D) (fuel : Int) (hfu : fuel ≤ 1073741824) :
    Calls Try.prog 27 #[.slice (some ⟨b, o, none⟩) n cap, .int .i64 fuel] w (TPost w (docD D fuel)) := by
  obtain ⟨hn1, hn2⟩ := hD.bd
  have hbw := hD.lt
  have hlen := hD.len
  have hR := Lib.hid (fun W (hW : Doc W b o n cap D) => root_any b o n cap D W hW (lastD D 1) (lastD D 2) (by rw [lastD, hlen]) (by rw [lastD, hlen]))
  have hTr := Lib.hid (fun W (hW : Doc W b o n cap D) => dtree_doc hW (rootP n (lastD D 1) (lastD D 2)) (rootQ n (lastD D 1) (lastD D 2)) (rootT n (lastD D 1) (lastD D 2)) (rootW n (lastD D 1) (lastD D 2)) 64 fuel hfu)
  unfold docD
  rw [hlen]
  generalize lastD D 1 = c at *
  generalize lastD D 2 = d at *
  by_cases h20 : rootE n c d = 20
  · rw [if_pos h20]
    obtain ⟨e2, e3, e4, e5⟩ := root_bad h20 (by decide)
    rw [h20, e2, e3, e4, e5] at hR
    clear e2 e3 e4 e5
    have hw2 : IntKind.i64.wrap ((n : Int) - 2) = n - 2 := IntWalk.i64_in _ (by omega)
    clear h20 hTr
    go_enter Try.func27, Try.ntmps27
    go_upto_region 7 with (go_at_call 28; refine (hR.out _ (hD.below zw)).mono ?_; rintro e w1 ⟨rfl, hb1⟩; obtain ⟨hc1, hf1, hl1⟩ := bcell hb1; (try simp only [zdz] at hc1 hf1 hl1); have hz1 := hb1.size; (try simp only [zsz] at hz1); (try have g0 : w.heap.size < w1.heap.size := by omega); (try have g1 : w.heap.size + 1 < w1.heap.size := by omega); (try have g2 : w.heap.size + 2 < w1.heap.size := by omega); (try have gb : b < w1.heap.size := by omega); (try have g3 : w.heap.size + 3 < w1.heap.size := by omega); (try have hbb : Below w.heap.size w w1 := zw); (try obtain ⟨hco, hfo, _⟩ := bcell hbb); (try have hb1 := hb1))
    refine wp_named (fun wn => Below w.heap.size w wn ∧ wn.heap[w.heap.size]? = some (.cells #[.int .i64 0, .int .i64 0, .int .u64 0, .string ⟨#[]⟩, .slice none 0 0, .slice none 0 0] 44 (0, 0))) ⟨by exact zw, ((((Below.refl w1.heap.size w1).alloc (Nat.le_refl _) _).block _ (by omega)).trans (hb1.block _ (by simp))).trans (heap_alloc_new _ _)⟩ ?_
    clear hb1 hc1 hf1 hl1 hz1
    rintro wn ⟨hbn, hY1⟩
    have hfz := fun (j : Nat) => frozen_of_row _ _ j _ _ hY1
    have n0 : wn.cell? ⟨w.heap.size, 0, none⟩ = some (.int .i64 0) := cell_of_row _ _ _ _ _ _ hY1
    have n1 : wn.cell? ⟨w.heap.size, 1, none⟩ = some (.int .i64 0) := cell_of_row _ _ _ _ _ _ hY1
    have n2 : wn.cell? ⟨w.heap.size, 2, none⟩ = some (.int .u64 0) := cell_of_row _ _ _ _ _ _ hY1
    have n3 : wn.cell? ⟨w.heap.size, 3, none⟩ = some (.string ⟨#[]⟩) := cell_of_row _ _ _ _ _ _ hY1
    have n4 : wn.cell? ⟨w.heap.size, 4, none⟩ = some (.slice none 0 0) := cell_of_row _ _ _ _ _ _ hY1
    have n5 : wn.cell? ⟨w.heap.size, 5, none⟩ = some (.slice none 0 0) := cell_of_row _ _ _ _ _ _ hY1
    clear hY1
    go_wp2_with fail
    refine bodyPost_ret (v := .tuple #[.agg #[.int .i64 0, .int .i64 0, .int .u64 0, .string ⟨#[]⟩, .slice none 0 0, .slice none 0 0], .int .i64 0, .int .i64 ((n : Int) - 2), .int .i64 20]) (by simp [results, Try.results27, go_sem, *]) rfl ?_
    exact tpost_zero6 hbn (Nat.le_refl _)
  rw [if_neg h20]
  by_cases h0 : rootE n c d = 0
  rotate_left
  · rw [if_pos h0]
    obtain ⟨e2, e3, e4, e5⟩ := root_bad (n := n) (c := c) (d := d) rfl h0
    rw [e2, e3, e4, e5] at hR
    clear e2 e3 e4 e5
    generalize rootE n c d = E at *
    have g0 : (E == 0) = false := by simpa using h0
    have g20 : (E == 20) = false := by simpa using h20
    clear h20 h0 hTr
    go_enter Try.func27, Try.ntmps27
    go_upto_region 7 with (go_at_call 28; refine (hR.out _ (hD.below zw)).mono ?_; rintro e w1 ⟨rfl, hb1⟩; obtain ⟨hc1, hf1, hl1⟩ := bcell hb1; (try simp only [zdz] at hc1 hf1 hl1); have hz1 := hb1.size; (try simp only [zsz] at hz1); (try have g0 : w.heap.size < w1.heap.size := by omega); (try have g1 : w.heap.size + 1 < w1.heap.size := by omega); (try have g2 : w.heap.size + 2 < w1.heap.size := by omega); (try have gb : b < w1.heap.size := by omega); (try have g3 : w.heap.size + 3 < w1.heap.size := by omega); (try have hbb : Below w.heap.size w w1 := zw); (try obtain ⟨hco, hfo, _⟩ := bcell hbb); (try have hb1 := hb1))
    refine wp_named (fun wn => Below w.heap.size w wn ∧ wn.heap[w.heap.size]? = some (.cells #[.int .i64 0, .int .i64 0, .int .u64 0, .string ⟨#[]⟩, .slice none 0 0, .slice none 0 0] 44 (0, 0))) ⟨by exact zw, ((((Below.refl w1.heap.size w1).alloc (Nat.le_refl _) _).block _ (by omega)).trans (hb1.block _ (by simp))).trans (heap_alloc_new _ _)⟩ ?_
    clear hb1 hc1 hf1 hl1 hz1
    rintro wn ⟨hbn, hY1⟩
    have hfz := fun (j : Nat) => frozen_of_row _ _ j _ _ hY1
    have n0 : wn.cell? ⟨w.heap.size, 0, none⟩ = some (.int .i64 0) := cell_of_row _ _ _ _ _ _ hY1
    have n1 : wn.cell? ⟨w.heap.size, 1, none⟩ = some (.int .i64 0) := cell_of_row _ _ _ _ _ _ hY1
    have n2 : wn.cell? ⟨w.heap.size, 2, none⟩ = some (.int .u64 0) := cell_of_row _ _ _ _ _ _ hY1
    have n3 : wn.cell? ⟨w.heap.size, 3, none⟩ = some (.string ⟨#[]⟩) := cell_of_row _ _ _ _ _ _ hY1
    have n4 : wn.cell? ⟨w.heap.size, 4, none⟩ = some (.slice none 0 0) := cell_of_row _ _ _ _ _ _ hY1
    have n5 : wn.cell? ⟨w.heap.size, 5, none⟩ = some (.slice none 0 0) := cell_of_row _ _ _ _ _ _ hY1
    clear hY1
    go_wp2_with fail
    refine bodyPost_ret (v := .tuple #[.agg #[.int .i64 0, .int .i64 0, .int .u64 0, .string ⟨#[]⟩, .slice none 0 0, .slice none 0 0], .int .i64 0, .int .i64 0, .int .i64 E]) (by simp [results, Try.results27, go_sem, *]) rfl ?_
    exact tpost_zero6 hbn (Nat.le_refl _)
  · rw [if_neg (by simpa using h0)]
    rw [h0] at hR
    clear h20 h0
    generalize rootP n c d = p at *
    generalize rootQ n c d = q at *
    generalize rootT n c d = t at *
    generalize rootW n c d = k at *
    go_enter Try.func27, Try.ntmps27
    go_upto_region 4 with (go_at_call 28; refine (hR.out _ (hD.below zw)).mono ?_; rintro e w1 ⟨rfl, hb1⟩; obtain ⟨hc1, hf1, hl1⟩ := bcell hb1; (try simp only [zdz] at hc1 hf1 hl1); have hz1 := hb1.size; (try simp only [zsz] at hz1); (try have g0 : w.heap.size < w1.heap.size := by omega); (try have g1 : w.heap.size + 1 < w1.heap.size := by omega); (try have g2 : w.heap.size + 2 < w1.heap.size := by omega); (try have gb : b < w1.heap.size := by omega); (try have g3 : w.heap.size + 3 < w1.heap.size := by omega); (try have hbb : Below w.heap.size w w1 := zw); (try obtain ⟨hco, hfo, _⟩ := bcell hbb); (try have hb1 := hb1))
    refine wp_named (fun wn => Below w.heap.size w wn ∧ w.heap.size < wn.heap.size ∧ wn.heap[w.heap.size]? = some (.cells #[.int .i64 0, .int .i64 0, .int .u64 0, .string ⟨#[]⟩, .slice none 0 0, .slice none 0 0] 44 (0, 0)) ∧ w.heap.size < w1.heap.size ∧ w1.heap.size < wn.heap.size ∧ wn.cell? ⟨w1.heap.size, 0, none⟩ = some (.int .i64 p) ∧ wn.cell? ⟨w1.heap.size, 1, none⟩ = some (.int .i64 q) ∧ wn.cell? ⟨w1.heap.size, 2, none⟩ = some (.int .i64 t) ∧ wn.cell? ⟨w1.heap.size, 3, none⟩ = some (.int .i64 k)) ⟨by exact zw, by simp; omega, ((((Below.refl w1.heap.size w1).alloc (Nat.le_refl _) _).block _ (by omega)).trans (hb1.block _ (by simp))).trans (heap_alloc_new _ _), by omega, by simp, by go_simp, by go_simp, by go_simp, by go_simp⟩ ?_
    clear hb1 hc1 hf1 hl1 hz1
    generalize w1.heap.size = G
    rintro wn ⟨hbn, hY, hYb, hG0, hG1, z0, z1, z2, z3⟩
    go_wp2_with fail
    refine (hTr.out _ (hD.below hbn)).mono ?_
    intro e w1 hp
    have hp0 := hp
    obtain ⟨kd1, nn1, uu1, s1, B1, m1, d1, B2, m2, d2, bs, rfl, -, -, -, hb1⟩ := hp
    have hY1 := (hb1.block _ hY).trans hYb
    have hfz := fun (j : Nat) => frozen_of_row _ _ j _ _ hY1
    have n0 : w1.cell? ⟨w.heap.size, 0, none⟩ = some (.int .i64 0) := cell_of_row _ _ _ _ _ _ hY1
    have n1 : w1.cell? ⟨w.heap.size, 1, none⟩ = some (.int .i64 0) := cell_of_row _ _ _ _ _ _ hY1
    have n2 : w1.cell? ⟨w.heap.size, 2, none⟩ = some (.int .u64 0) := cell_of_row _ _ _ _ _ _ hY1
    have n3 : w1.cell? ⟨w.heap.size, 3, none⟩ = some (.string ⟨#[]⟩) := cell_of_row _ _ _ _ _ _ hY1
    have n4 : w1.cell? ⟨w.heap.size, 4, none⟩ = some (.slice none 0 0) := cell_of_row _ _ _ _ _ _ hY1
    have n5 : w1.cell? ⟨w.heap.size, 5, none⟩ = some (.slice none 0 0) := cell_of_row _ _ _ _ _ _ hY1
    generalize treeD D 64 fuel p q t k = res at *
    obtain ⟨T, x, y, z⟩ := res
    have HP := Lib.hid hp0
    clear hY1 hYb z0 z1 z2 z3 hp0 hb1
    go_wp2_with fail
    refine bodyPost_ret (v := .tuple #[.agg #[.int .i64 kd1, .int .i64 nn1, .int .u64 uu1, .string s1, .slice B1 m1 d1, .slice B2 m2 d2], .int .i64 x, .int .i64 y, .int .i64 z]) (by simp [results, Try.results27, go_sem, *]) rfl ?_
    exact tpost_move HP.out hbn hY (Nat.le_refl _)
end
end
end Go.Proofs.Ytmpflnlajakibaa
