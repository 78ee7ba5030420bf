/- The walks of path.leads and path.Get. -/
import Derived.Test.YtlblddeemkefkaaGreatDoorFa
import Derived.Test.YtlblddeemkefkaaGreatDoorEc
namespace Go.Proofs.YtlblddeemkefkaaGreatDoor
set_option linter.unusedVariables false
set_option linter.unusedSimpArgs false
section
open Go.RowKit
set_option maxRecDepth 100000 in
set_option maxHeartbeats 8000000 in
theorem leads_any (kd nn u : Int) (t : List UInt8) (ks : List (List UInt8)) (l : List DT) (key : List UInt8) (at_ : Int) (by_ : Bool) (w : World) (x0 x1 x2 x3 x4 x5 : Value) (hx : RRep w (.mk kd nn u t ks l) [x0, x1, x2, x3, x4, x5]) :
    Calls Tryz.prog 55 #[.agg #[x0, x1, x2, x3, x4, x5], .agg #[strV key, .int .i64 at_, .bool by_]] w fun e w' => e = .returned (.int .i64 (leadsD (.mk kd nn u t ks l) (key, at_, by_))) ∧ Below w.heap.size w w' := by
  obtain ⟨A1, c1, A2, c2, xs, hcs, hk, hl, hkids⟩ := hx.form
  simp only [List.cons.injEq, and_true] at hcs
  obtain ⟨rfl, rfl, rfl, rfl, rfl, rfl⟩ := hcs
  have HI := Lib.hid (fun (W : World) (hW : Below w.heap.size w W) => index_any ks A1 c1 key W (hk.below hW))
  have hbl := hl.bound
  have hib := idx_bd ks key
  have hbk := hk.bound
  clear hx hk hl hkids
  obtain ⟨r, hr⟩ : ∃ r, r = leadsD (.mk kd nn u t ks l) (key, at_, by_) := ⟨_, rfl⟩
  rw [← hr]
  obtain ⟨i, hi⟩ : ∃ i, i = (if by_ then (if kd = 17 then idxK ks key else -1) else at_) := ⟨_, rfl⟩
  have hr2 : r = if i < 0 ∨ (l.length : Int) ≤ i then -1 else i := by rw [hr, hi]; rfl
  obtain ⟨ix, hix⟩ : ∃ ix, ix = idxK ks key := ⟨_, rfl⟩
  rw [← hix] at hi HI hib
  unfold strV at HI ⊢
  generalize ks.length = q at *
  generalize l.length = m at *
  clear hr hix
  have hway : (by_ = false ∧ i = at_) ∨ (by_ = true ∧ kd = 17 ∧ i = ix) ∨ (by_ = true ∧ kd ≠ 17 ∧ i = -1) := by
    cases by_ with
    | false => left; exact ⟨rfl, by rw [hi]; rfl⟩
    | true =>
      right
      by_cases h : kd = 17
      · left; exact ⟨rfl, h, by rw [hi]; simp [h]⟩
      · right; exact ⟨rfl, h, by rw [hi]; simp [h]⟩
  have hend : (i < 0 ∧ r = -1) ∨ (0 ≤ i ∧ (m : Int) ≤ i ∧ r = -1) ∨ (0 ≤ i ∧ i < (m : Int) ∧ r = i) := by
    by_cases h : i < 0
    · left; exact ⟨h, by rw [hr2, if_pos (.inl h)]⟩
    · by_cases h2 : (m : Int) ≤ i
      · right; left; exact ⟨by omega, h2, by rw [hr2, if_pos (.inr h2)]⟩
      · right; right; exact ⟨by omega, by omega, by rw [hr2, if_neg (by omega)]⟩
  clear hi hr2
  rcases hway with ⟨rfl, rfl⟩ | ⟨rfl, rfl, rfl⟩ | ⟨rfl, hkd, rfl⟩
  · rcases hend with ⟨h0, rfl⟩ | ⟨h0, h1, rfl⟩ | ⟨h0, h1, rfl⟩
    · clear HI
      go_enter Tryz.func55, Tryz.ntmps55
      go_wp2_with fail
      go_ret
      exact ⟨rfl, by exact zw⟩
    · clear HI
      have h2 : ¬ (i : Int) < 0 := by omega
      go_enter Tryz.func55, Tryz.ntmps55
      go_wp2_with fail
      go_ret
      exact ⟨rfl, by exact zw⟩
    · clear HI
      have h2 : ¬ (r : Int) < 0 := by omega
      go_enter Tryz.func55, Tryz.ntmps55
      go_wp2_with fail
      go_ret
      exact ⟨rfl, by exact zw⟩
  · rcases hend with ⟨h0, rfl⟩ | ⟨h0, h1, rfl⟩ | ⟨h0, h1, rfl⟩
    · go_enter Tryz.func55, Tryz.ntmps55
      go_wp2_with (go_at_call 86; refine (HI.out _ zw).mono ?_; rintro e w1 ⟨rfl, hb1⟩; obtain ⟨hc1, hf1, hl1⟩ := bcell hb1; (try simp only [zdz] at hc1 hf1 hl1); have hz1 := hb1.size; (try simp only [zsz] at hz1); (try have g0 : w.heap.size < w1.heap.size := by omega); (try have g1 : w.heap.size + 1 < w1.heap.size := by omega); (try have g2 : w.heap.size + 2 < w1.heap.size := by omega); (try have gb : b < w1.heap.size := by omega); (try have g3 : w.heap.size + 3 < w1.heap.size := by omega); (try have hbb : Below w.heap.size w w1 := zw); (try obtain ⟨hco, hfo, _⟩ := bcell hbb); (try have hb1 := hb1))
      go_ret
      exact ⟨rfl, by exact zw⟩
    · have h2 : ¬ (i : Int) < 0 := by omega
      go_enter Tryz.func55, Tryz.ntmps55
      go_wp2_with (go_at_call 86; refine (HI.out _ zw).mono ?_; rintro e w1 ⟨rfl, hb1⟩; obtain ⟨hc1, hf1, hl1⟩ := bcell hb1; (try simp only [zdz] at hc1 hf1 hl1); have hz1 := hb1.size; (try simp only [zsz] at hz1); (try have g0 : w.heap.size < w1.heap.size := by omega); (try have g1 : w.heap.size + 1 < w1.heap.size := by omega); (try have g2 : w.heap.size + 2 < w1.heap.size := by omega); (try have gb : b < w1.heap.size := by omega); (try have g3 : w.heap.size + 3 < w1.heap.size := by omega); (try have hbb : Below w.heap.size w w1 := zw); (try obtain ⟨hco, hfo, _⟩ := bcell hbb); (try have hb1 := hb1))
      go_ret
      exact ⟨rfl, by exact zw⟩
    · have h2 : ¬ (r : Int) < 0 := by omega
      go_enter Tryz.func55, Tryz.ntmps55
      go_wp2_with (go_at_call 86; refine (HI.out _ zw).mono ?_; rintro e w1 ⟨rfl, hb1⟩; obtain ⟨hc1, hf1, hl1⟩ := bcell hb1; (try simp only [zdz] at hc1 hf1 hl1); have hz1 := hb1.size; (try simp only [zsz] at hz1); (try have g0 : w.heap.size < w1.heap.size := by omega); (try have g1 : w.heap.size + 1 < w1.heap.size := by omega); (try have g2 : w.heap.size + 2 < w1.heap.size := by omega); (try have gb : b < w1.heap.size := by omega); (try have g3 : w.heap.size + 3 < w1.heap.size := by omega); (try have hbb : Below w.heap.size w w1 := zw); (try obtain ⟨hco, hfo, _⟩ := bcell hbb); (try have hb1 := hb1))
      go_ret
      exact ⟨rfl, by exact zw⟩
  · obtain rfl : r = -1 := by omega
    have e1 : (kd == 17) = false := by simp [hkd]
    clear hend hkd HI
    go_enter Tryz.func55, Tryz.ntmps55
    go_wp2_with fail
    go_ret
    exact ⟨rfl, by exact zw⟩
/-- The node to which a path leads. -/
def getD : DT → List PS → Option DT
  | T, [] => some T
  | T, s :: r => if leadsD T s < 0 then none else getD ((kidsOf T).getD (leadsD T s).toNat (.mk 0 0 0 [] [] [])) r
def zT : DT := .mk 0 0 0 [] [] []
theorem fresh_zero (B : Nat) (w : World) : Fresh B w zT (.agg #[.int .i64 0, .int .i64 0, .int .u64 0, .string ⟨#[]⟩, .slice none 0 0, .slice none 0 0]) := by
  refine ⟨_, _, _, _, _, _, [], rfl, ?_, List.nodup_nil, by simp⟩
  unfold zT
  rw [NRep]
  exact ⟨_, _, [], [], rfl, World.ownsRow_nil _ _ _ _, World.ownsRow_nil _ _ _ _, by rw [NReps]; exact ⟨rfl, rfl⟩, by simp [blkL, Value.ownBlock]⟩
/-- What Get and Set return: a tree of one's own, an error. -/
def NodeErr (B : Nat) (r : DT × Int) (e : Ending) (w' : World) : Prop := ∃ v, e = .returned (.tuple #[v, .int .i64 r.2]) ∧ Fresh B w' r.1 v
def getR (T : DT) (p : List PS) : DT × Int := match getD T p with | some T' => (T', 0) | none => (zT, 80)
theorem RRep.smallKid {kd nn u : Int} {t : List UInt8} {ks : List (List UInt8)} {l : List DT} (h : SmallD (.mk kd nn u t ks l)) {j : Nat} (hj : j < l.length) : SmallD l[j] := by
  rw [SmallD] at h
  exact h.2.2.at_ _ (List.getElem_mem hj)
set_option maxRecDepth 100000 in
set_option maxHeartbeats 8000000 in
theorem get_any (T : DT) (p : List PS) (w : World) (x0 x1 x2 x3 x4 x5 : Value) (A : Option Addr) (c : Nat) (hx : RRep w T [x0, x1, x2, x3, x4, x5]) (hsm : SmallD T) (hp : StepRd w (.slice A p.length c) p) :
    Calls Tryz.prog 22 #[.agg #[x0, x1, x2, x3, x4, x5], .slice A p.length c] w fun e w' => NodeErr w.heap.size (getR T p) e w' ∧ Below w.heap.size w w' := by
  obtain ⟨kd, nn, u, s, A1, m1, c1, A2, m2, c2, hcs⟩ := hx.cs6
  simp only [List.cons.injEq, and_true] at hcs
  obtain ⟨rfl, rfl, rfl, rfl, rfl, rfl⟩ := hcs
  have HP := Lib.hid hp
  have hbd := Rd.bound hp
  obtain ⟨n, hn⟩ : ∃ n, n = p.length := ⟨_, rfl⟩
  rw [← hn] at hbd ⊢
  have HN := Lib.hid hn
  have HX0 := Lib.hid (And.intro hx hsm)
  clear hx hsm hp hn
  go_enter Tryz.func22, Tryz.ntmps22
  go_upto_region 1 with fail
  refine wp_named (fun wn => Below w.heap.size w wn ∧ w.heap.size + 1 < wn.heap.size ∧ wn.heap[w.heap.size]? = some (.cells #[.int .i64 kd, .int .i64 nn, .int .u64 u, .string s, .slice A1 m1 c1, .slice A2 m2 c2] 38 (0, 0)) ∧ wn.heap[w.heap.size + 1]? = some (.cells #[.int .i64 0, .int .i64 0, .int .u64 0, .string ⟨#[]⟩, .slice none 0 0, .slice none 0 0] 38 (0, 0))) ⟨by exact zw, by simp, ?_, ?_⟩ ?_
  · exact (Below.heap_alloc _ _ _ (by simp)).trans (heap_alloc_new _ _)
  · have := heap_alloc_new (w.alloc (.cells #[.int .i64 kd, .int .i64 nn, .int .u64 u, .string s, .slice A1 m1 c1, .slice A2 m2 c2] 38)) (.cells #[.int .i64 0, .int .i64 0, .int .u64 0, .string ⟨#[]⟩, .slice none 0 0, .slice none 0 0] 38)
    rw [World.size_alloc] at this
    exact this
  rintro wn ⟨hbn, hzn, hXn, hYn⟩
  have HBn := Lib.hid hbn
  have HXn := Lib.hid hXn
  have HYn := Lib.hid hYn
  clear hbn hXn hYn
  go_wp2_with fail
  go_loopw [11] (fun i wr => ∃ (k : Nat) (T' : DT) (kd nn u : Int) (s : ByteArray) (A1 : Option Addr) (m1 c1 : Nat) (A2 : Option Addr) (m2 c2 : Nat), k ≤ n ∧ i = .int .i64 k ∧ Hid (getD T p = getD T' (p.drop k)) ∧ Hid (RRep w T' [.int .i64 kd, .int .i64 nn, .int .u64 u, .string s, .slice A1 m1 c1, .slice A2 m2 c2] ∧ SmallD T') ∧ w.heap.size + 1 < wr.heap.size ∧ wr.heap[w.heap.size]? = some (.cells #[.int .i64 kd, .int .i64 nn, .int .u64 u, .string s, .slice A1 m1 c1, .slice A2 m2 c2] 38 (0, 0)) ∧ wr.heap[w.heap.size + 1]? = some (.cells #[.int .i64 0, .int .i64 0, .int .u64 0, .string ⟨#[]⟩, .slice none 0 0, .slice none 0 0] 38 (0, 0)) ∧ Below w.heap.size w wr) (fun i _ => n - (intOf i).toNat)
  case atStart => exact ⟨0, T, _, _, _, _, _, _, _, _, _, _, by omega, rfl, Lib.hid rfl, HX0, hzn, HXn.out, HYn.out, HBn.out⟩
  case round =>
    rename_i wr
    clear HX0 HXn HYn HBn
    obtain ⟨k, T', kd', nn', u', s', A1', m1', c1', A2', m2', c2', hk, rfl, hG, hR, hzr, hXr, hYr, hbr⟩ := hrel
    obtain ⟨z0, z1, z2, z3, z4, z5⟩ := cells6 hXr
    have gX : w.heap.size < wr.heap.size := by omega
    have HX := Lib.hid hXr
    have HY := Lib.hid hYr
    have HB := Lib.hid hbr
    by_cases h1 : k < n
    · have h1' : (k : Int) < (n : Int) := by omega
      have hkl : k < p.length := by rw [← HN.out]; exact h1
      have hSt : StepRd w (.slice A n c) p := by
        have := HP.out
        have e := HN.out
        rw [← e] at this
        exact this
      obtain ⟨b, o, rfl, hblt, hblr, s0, s1, s2⟩ := hSt.at_ hbr k hkl
      have hG2 := hG.out
      rw [List.drop_eq_getElem_cons hkl, getD] at hG2
      generalize p[k] = st at *
      obtain ⟨key, at_, by_⟩ := st
      dsimp only at s0 s1 s2
      obtain ⟨akd, ann, au, ast, aks, al⟩ := T'
      obtain ⟨A1, c1, A2, c2, xs, hcs, hk1, hl1, hkids⟩ := hR.out.1.form
      simp only [List.cons.injEq, and_true] at hcs
      obtain ⟨he0, he1, he2, he3, he4, he5⟩ := hcs
      injection he5 with f1 f2 f3
      subst f1 f2 f3
      have HL := Lib.hid (fun (V : World) (hV : Below w.heap.size w V) => leads_any akd ann au ast aks al key at_ by_ V _ _ _ _ _ _ (RRep.below hV _ _ hR.out.1))
      unfold strV at HL
      have hlb := leadsD_bd (.mk akd ann au ast aks al) (key, at_, by_)
      generalize hld : leadsD (.mk akd ann au ast aks al) (key, at_, by_) = ld at *
      have HSM := Lib.hid hR.out.2
      have HKD := Lib.hid (And.intro hkids hl1)
      rcases hlb with rfl | ⟨hl0, hll⟩
      · rw [if_pos (by omega)] at hG2
        have HG2 := Lib.hid hG2
        obtain ⟨y0, y1, y2, y3, y4, y5⟩ := cells6 hYr
        have fy0 : wr.frozen? ⟨w.heap.size + 1, 0, none⟩ = false := frozen_of_row _ _ _ _ _ hYr
        have fy1 : wr.frozen? ⟨w.heap.size + 1, 1, none⟩ = false := frozen_of_row _ _ _ _ _ hYr
        have fy2 : wr.frozen? ⟨w.heap.size + 1, 2, none⟩ = false := frozen_of_row _ _ _ _ _ hYr
        have fy3 : wr.frozen? ⟨w.heap.size + 1, 3, none⟩ = false := frozen_of_row _ _ _ _ _ hYr
        have fy4 : wr.frozen? ⟨w.heap.size + 1, 4, none⟩ = false := frozen_of_row _ _ _ _ _ hYr
        have fy5 : wr.frozen? ⟨w.heap.size + 1, 5, none⟩ = false := frozen_of_row _ _ _ _ _ hYr
        clear hG2 hG hR hXr hYr hSt hk1 hl1 hkids hld he0 he1 he2 he3 he4
        go_wp2_with (go_at_call 55; refine (HL.out _ (HB.out.alloc (by omega) _)).mono ?_; rintro e w1 ⟨rfl, hb1⟩; obtain ⟨hc1, hf1, hl1⟩ := bcell hb1; (try simp only [zdz] at hc1 hf1 hl1); have hz1 := hb1.size; (try simp only [zsz] at hz1); (try have g0 : w.heap.size < w1.heap.size := by omega); (try have g1 : w.heap.size + 1 < w1.heap.size := by omega); (try have g2 : w.heap.size + 2 < w1.heap.size := by omega); (try have gb : b < w1.heap.size := by omega); (try have g3 : w.heap.size + 3 < w1.heap.size := by omega); (try have hbb : Below w.heap.size w w1 := zw); (try obtain ⟨hco, hfo, _⟩ := bcell hbb); (try have hb1 := hb1))
        (refine bodyPost_ret (v := .tuple #[.agg #[.int .i64 0, .int .i64 0, .int .u64 0, .string ⟨#[]⟩, .slice none 0 0, .slice none 0 0], .int .i64 80]) (by simp [results, Tryz.results22, go_sem, *]) rfl ?_)
        refine ⟨⟨_, by unfold getR; rw [HG2.out], by unfold getR; rw [HG2.out]; exact fresh_zero _ _⟩, below_six hbb (by omega) _ _ _ _ _ _⟩
      · rw [if_neg (by omega)] at hG2
        obtain ⟨j, hj⟩ : ∃ j : Nat, ld = (j : Int) := ⟨ld.toNat, by omega⟩
        subst hj
        rw [Int.toNat_natCast] at hll hG2
        have hjl : j < al.length := hll
        have hkd : (kidsOf (.mk akd ann au ast aks al)).getD j (.mk 0 0 0 [] [] []) = al[j] := by
          rw [List.getD_eq_getElem?_getD]
          show (al[j]?).getD _ = _
          rw [List.getElem?_eq_getElem hjl]
          rfl
        rw [hkd] at hG2
        have HG2 := Lib.hid hG2
        obtain ⟨bk, ok, kd3, nn3, uu3, s3, A3, m3, c3, A4, m4, c4, rfl, hkb, hkb2, hrep, p0, p1, p2, p3, p4, p5⟩ := hkids.kid hl1 hbr j hjl
        have HREP := Lib.hid (And.intro hrep (RRep.smallKid HSM.out hjl))
        generalize al[j] = T2 at *
        have hbX : bk ≠ w.heap.size := by omega
        have fx0 : wr.frozen? ⟨w.heap.size, 0, none⟩ = false := frozen_of_row _ _ _ _ _ hXr
        have fx1 : wr.frozen? ⟨w.heap.size, 1, none⟩ = false := frozen_of_row _ _ _ _ _ hXr
        have fx2 : wr.frozen? ⟨w.heap.size, 2, none⟩ = false := frozen_of_row _ _ _ _ _ hXr
        have fx3 : wr.frozen? ⟨w.heap.size, 3, none⟩ = false := frozen_of_row _ _ _ _ _ hXr
        have fx4 : wr.frozen? ⟨w.heap.size, 4, none⟩ = false := frozen_of_row _ _ _ _ _ hXr
        have fx5 : wr.frozen? ⟨w.heap.size, 5, none⟩ = false := frozen_of_row _ _ _ _ _ hXr
        have hjm : (j : Int) < (al.length : Int) := by omega
        clear hG2 hG hR hXr hYr hSt hk1 hl1 hkids hld he0 he1 he2 he3 he4 hll hrep hkd
        go_wp2_with (go_at_call 55; refine (HL.out _ (HB.out.alloc (by omega) _)).mono ?_; rintro e w1 ⟨rfl, hb1⟩; obtain ⟨hc1, hf1, hl1⟩ := bcell hb1; (try simp only [zdz] at hc1 hf1 hl1); have hz1 := hb1.size; (try simp only [zsz] at hz1); (try have g0 : w.heap.size < w1.heap.size := by omega); (try have g1 : w.heap.size + 1 < w1.heap.size := by omega); (try have g2 : w.heap.size + 2 < w1.heap.size := by omega); (try have gb : b < w1.heap.size := by omega); (try have g3 : w.heap.size + 3 < w1.heap.size := by omega); (try have hbb : Below w.heap.size w w1 := zw); (try obtain ⟨hco, hfo, _⟩ := bcell hbb); (try have hb1 := hb1))
        have hXa := (Below.heap_alloc wr (.cells #[.string ⟨key.toArray⟩, .int .i64 at_, .bool by_] 50) _ gX).trans HX.out
        have hYa := (Below.heap_alloc wr (.cells #[.string ⟨key.toArray⟩, .int .i64 at_, .bool by_] 50) _ hzr).trans HY.out
        have hX1 := below_row hXa hb1
        have hY1 := below_row hYa hb1
        have hfin : w.heap.size + 1 < w1.heap.size := by omega
        clear hXa hYa hc1 hf1 hl1 hco hfo hb1
        go_roundw
        case rel => exact ⟨k + 1, T2, kd3, nn3, uu3, s3, A3, m3, c3, A4, m4, c4, by omega, by go_num, HG2, HREP, by simp; omega, row6_set hX1 _ _ _ _ _ _, ((touch6 (Y := w.heap.size) _ _ _ _ _ _).block _ hfin (by simp)).trans hY1, below_six hbb (Nat.le_refl _) _ _ _ _ _ _⟩
        case measure => simp only [intOf]; omega
    · have h1' : ¬ (k : Int) < (n : Int) := by omega
      have hG2 := hG.out
      rw [List.drop_of_length_le (by rw [← HN.out]; omega), getD] at hG2
      have HG2 := Lib.hid hG2
      have HC := Lib.hid (fun (V : World) (hV : Below w.heap.size w V) => tcopy_any T' V _ _ _ _ _ _ (RRep.below hV _ _ hR.out.1) hR.out.2)
      clear hG2 hG hR hXr
      go_wp2_with fail
      refine (HC.out _ hbr).mono ?_
      clear HC
      rintro e w1 ⟨⟨v1, rfl, hf⟩, hb1⟩
      have HF := Lib.hid hf
      obtain ⟨y0, y1, y2, y3, y4, y5, bs, rfl, hn1, -, -⟩ := hf
      obtain ⟨kd1, nn1, uu1, s1, B1, m1, d1, B2, m2, d2, rfl, rfl, rfl, rfl, rfl, rfl⟩ := hn1.form2
      have hY1 := below_row hYr hb1
      obtain ⟨q0, q1, q2, q3, q4, q5⟩ := cells6 hY1
      have fy0 : w1.frozen? ⟨w.heap.size + 1, 0, none⟩ = false := frozen_of_row _ _ _ _ _ hY1
      have fy1 : w1.frozen? ⟨w.heap.size + 1, 1, none⟩ = false := frozen_of_row _ _ _ _ _ hY1
      have fy2 : w1.frozen? ⟨w.heap.size + 1, 2, none⟩ = false := frozen_of_row _ _ _ _ _ hY1
      have fy3 : w1.frozen? ⟨w.heap.size + 1, 3, none⟩ = false := frozen_of_row _ _ _ _ _ hY1
      have fy4 : w1.frozen? ⟨w.heap.size + 1, 4, none⟩ = false := frozen_of_row _ _ _ _ _ hY1
      have fy5 : w1.frozen? ⟨w.heap.size + 1, 5, none⟩ = false := frozen_of_row _ _ _ _ _ hY1
      have hz1 := hb1.size
      have HB1 := Lib.hid (hbr.trans (hb1.mono (by omega)))
      clear hY1 hn1 hb1 hbr hYr
      go_wp2_with fail
      (refine bodyPost_ret (v := .tuple #[.agg #[.int .i64 kd1, .int .i64 nn1, .int .u64 uu1, .string s1, .slice B1 m1 d1, .slice B2 m2 d2], .int .i64 0]) (by simp [results, Tryz.results22, go_sem, *]) rfl ?_)
      exact ⟨⟨_, by unfold getR; rw [HG2.out], by unfold getR; rw [HG2.out]; exact HF.out.six (by omega) (by omega) _ _ _ _ _ _⟩, below_six HB1.out (by omega) _ _ _ _ _ _⟩
end
end Go.Proofs.YtlblddeemkefkaaGreatDoor
