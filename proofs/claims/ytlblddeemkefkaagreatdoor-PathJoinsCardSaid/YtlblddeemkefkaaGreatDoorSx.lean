/- The walk of accordionlaw08.PathJoins: written by wip/gen/pj.py. -/
import Derived.Test.YtlblddeemkefkaaGreatDoorSu
import Derived.Test.YtlblddeemkefkaaGreatDoorSw
namespace Go.Proofs.YtlblddeemkefkaaGreatDoor
set_option linter.unusedVariables false
set_option linter.unusedSimpArgs false
section
open Go.RowKit
theorem kid_small {T : DT} (h : SmallD T) (i : Nat) : SmallD (kidD T i) := by
  obtain ⟨kd, n, u, s, ks, l⟩ := T
  rw [SmallD] at h
  exact SmallDs.getD h.2.2 i
theorem getD_small : ∀ (p : List PS) (T T' : DT), SmallD T → getD T p = some T' → SmallD T'
  | [], T, T', h, e => by
    rw [getD] at e
    cases e
    exact h
  | s :: p, T, T', h, e => by
    rw [getD_cons] at e
    split at e
    · cases e
    · exact getD_small p _ _ (kid_small h _) e
theorem getR_small (T : DT) (p : List PS) (h : SmallD T) : SmallD (getR T p).1 := by
  unfold getR
  cases hg : getD T p with
  | none => show SmallD zT; simp [zT, SmallD, SmallDs]
  | some T' => exact getD_small p T T' h hg
def pj4 (HS P7 : Nat) (kda nna uua : Int) (sa : ByteArray) (Aa : Option Addr) (ma ca : Nat) (Ba : Option Addr) (na da : Nat) (A8 : Option Addr) (c8 : Nat) (A9 : Option Addr) (c9 : Nat) (p q : List PS) (Z : DT) (er : Int) : Posts := fun b t v w => match t with
  | 7 => v = .pointer (some ⟨P7, 0, none⟩)
  | 8 => v = .slice A8 p.length c8
  | 9 => v = .slice A9 q.length c9
  | 35 => v = .agg #[.int .i64 kda, .int .i64 nna, .int .u64 uua, .string sa, .slice Aa ma ca, .slice Ba na da]
  | 36 => E0p HS w b v
  | 37 => v = .slice A8 p.length c8
  | 38 => RQp HS w p b v
  | 39 => v = .slice A9 q.length c9
  | 40 => RQp HS w (p ++ q) b v
  | 41 => SVp w Z er b v
  | 34 => SVp w Z er b v
  | 42 => NVp w Z b v
  | 43 => v = .int .i64 er
  | 14 => v = .pointer (some ⟨b, 0, none⟩)
  | 15 => v = .int .i64 er
  | _ => True
theorem pj4_st (HS P7 : Nat) (kda nna uua : Int) (sa : ByteArray) (Aa : Option Addr) (ma ca : Nat) (Ba : Option Addr) (na da : Nat) (A8 : Option Addr) (c8 : Nat) (A9 : Option Addr) (c9 : Nat) (p q : List PS) (Z : DT) (er : Int) : ∀ (b : Nat) (t : Tmp) (v : Value) (w w' : World), ExtB b w w' → pj4 HS P7 kda nna uua sa Aa ma ca Ba na da A8 c8 A9 c9 p q Z er b t v w → pj4 HS P7 kda nna uua sa Aa ma ca Ba na da A8 c8 A9 c9 p q Z er b t v w' := by
  intro b t v w w' hE
  unfold pj4
  split
  · exact id
  · exact id
  · exact id
  · exact id
  · exact fun h => h.ext hE
  · exact id
  · exact fun h => h.ext hE
  · exact id
  · exact fun h => h.ext hE
  · exact fun h => h.ext hE
  · exact fun h => h.ext hE
  · exact fun h => h.ext hE
  · exact id
  · exact id
  · exact id
  · exact id
set_option maxHeartbeats 32000000 in
set_option maxRecDepth 100000 in
theorem pathJoins_any (T : DT) (P0 Q0 : List PS) (w : World) (x0 x1 x2 x3 x4 x5 : Value) (Aq Ar : Option Addr) (cq cr : Nat) (hx : RRep w T [x0, x1, x2, x3, x4, x5]) (hwT : WfD T)
    (hp : StepRd w (.slice Aq P0.length cq) P0) (hq : StepRd w (.slice Ar Q0.length cr) Q0) (hsp : StepsOk P0) (hsq : StepsOk Q0) (hT : ShowTabs w) :
    Calls Tryz.prog 9 #[.agg #[x0, x1, x2, x3, x4, x5], .slice Aq P0.length cq, .slice Ar Q0.length cr] w fun e w' => e = .returned (.bool true) ∧ Below w.heap.size w w' := by
  obtain ⟨BB, hBB⟩ : ∃ b, b = w.heap.size := ⟨_, rfl⟩
  rw [← hBB]
  have HBB := Lib.hid hBB
  have HF := Lib.hid (fun (V : World) (hV : Below w.heap.size w V) => few8_any T V _ _ _ _ _ _ (RRep.below hV _ _ hx) hwT)
  have HCP := Lib.hid (fun (V : World) (hV : Below w.heap.size w V) => cut8_any P0 Aq cq V (Rd.below hp hV) fun s hs => (hsp s hs).1)
  have HCQ := Lib.hid (fun (V : World) (hV : Below w.heap.size w V) => cut8_any Q0 Ar cr V (Rd.below hq hV) fun s hs => (hsq s hs).1)
  have HSD := Lib.hid (few_small T)
  have hpl := cutP_len P0
  have hql := cutP_len Q0
  generalize fewD T = D at *
  generalize cutP P0 = p at *
  generalize cutP Q0 = q at *
  have HLT := Lib.hid hT
  obtain ⟨kdx, nnx, uux, sx, Ax, mx, cx, Bx, nx, dx, hcs⟩ := hx.cs6
  simp only [List.cons.injEq, and_true] at hcs
  obtain ⟨rfl, rfl, rfl, rfl, rfl, rfl⟩ := hcs
  clear hx hwT hp hq hsp hsq hT hBB
  generalize P0.length = nq at *
  generalize Q0.length = nr at *
  go_enter Tryz.func9, Tryz.ntmps9
  go_upto_region 1 with fail
  refine wp_named (fun wn => Below w.heap.size w wn ∧ wn.heap[w.heap.size]? = some (.cells #[.int .i64 kdx, .int .i64 nnx, .int .u64 uux, .string sx, .slice Ax mx cx, .slice Bx nx dx] 38 (0, 0))) ⟨(Below.refl _ w).alloc (Nat.le_refl _) _, heap_alloc_new _ _⟩ ?_
  rintro wn ⟨hbn, h3⟩
  generalize w.heap.size = P3 at h3 ⊢
  have HL := Lib.hid (show LW w wn from ⟨hbn, HLT.out.below hbn⟩)
  obtain ⟨z0, z1, z2, z3, z4, z5⟩ := cells6 h3
  have HBF := Lib.hid HL.out.b
  clear hbn HLT
  go_wp2_with fail
  refine (HF.out wn HBF.out).mono ?_
  rintro e w1 ⟨⟨v, rfl, hF⟩, hb⟩
  replace HL := Lib.hid (HL.out.next hb)
  obtain ⟨y0, y1, y2, y3, y4, y5, bsm, rfl, hNm, -, -⟩ := hF
  obtain ⟨kdm, nnm, uum, sm, Am, mm, cm, Bm, nm, dm, rfl, rfl, rfl, rfl, rfl, rfl⟩ := hNm.form2
  have HNm := Lib.hid hNm
  replace HBF := Lib.hid HL.out.b
  replace HBF := Lib.hid HL.out.b
  clear hb h3 z0 z1 z2 z3 z4 z5 hNm HF
  go_wp2_with fail
  refine (HCP.out w1 HBF.out).mono ?_
  rintro e w1b ⟨⟨v8, rfl, hs8⟩, hb⟩
  replace HL := Lib.hid (HL.out.next hb)
  replace HNm := Lib.hid (HNm.out.below hb)
  obtain ⟨A8, c8, rfl⟩ := owns_ptr hs8
  have hcap8 := ownsRow_cap hs8
  have HR8 := Lib.hid (show StepRd w1b (.slice A8 p.length c8) p from Rd.of_owns hs8)
  replace HBF := Lib.hid HL.out.b
  clear hb hs8 HCP
  go_wp2_with fail
  refine (HCQ.out w1b HBF.out).mono ?_
  rintro e w1c ⟨⟨v9, rfl, hs9⟩, hb⟩
  replace HL := Lib.hid (HL.out.next hb)
  replace HR8 := Lib.hid (Rd.below HR8.out hb)
  replace HNm := Lib.hid (HNm.out.below hb)
  obtain ⟨A9, c9, rfl⟩ := owns_ptr hs9
  have hcap9 := ownsRow_cap hs9
  have HR9 := Lib.hid (show StepRd w1c (.slice A9 q.length c9) q from Rd.of_owns hs9)
  clear hb hs9 HCQ HBF
  have hNm := HNm.out
  clear HNm
  have HNm := Lib.hid hNm
  clear hNm
  go_upto_region 2 with fail
  have hNm := HNm.out
  clear HNm
  refine wp_named (fun wn => Below w1c.heap.size w1c wn ∧ wn.heap[w1c.heap.size]? = some (.cells #[.int .i64 kdm, .int .i64 nnm, .int .u64 uum, .string sm, .slice Am mm cm, .slice Bm nm dm] 38 (0, 0))) ⟨(Below.refl _ w1c).alloc (Nat.le_refl _) _, heap_alloc_new _ _⟩ ?_
  rintro w2 ⟨hb, hP⟩
  replace HL := Lib.hid (HL.out.next hb)
  replace HR8 := Lib.hid (Rd.below HR8.out hb)
  replace HR9 := Lib.hid (Rd.below HR9.out hb)
  have HT7 := Lib.hid (show TB w2 w1c.heap.size D from ⟨_, _, _, _, _, _, _, _, _, _, _, hP, hNm.below hb⟩)
  clear hb hP hNm
  generalize w1c.heap.size = P7 at HT7 ⊢
  obtain ⟨X, er, hX⟩ : ∃ X er, getR D p = (X, er) := ⟨_, _, rfl⟩
  have HGX := Lib.hid hX
  obtain ⟨Y, f, hY⟩ : ∃ Y f, getR X q = (Y, f) := ⟨_, _, rfl⟩
  have HGY := Lib.hid hY
  obtain ⟨Z, g, hZ⟩ : ∃ Z g, getR D (p ++ q) = (Z, g) := ⟨_, _, rfl⟩
  have HGZ := Lib.hid hZ
  have HSX := Lib.hid (show SmallD X by have h := getR_small D p HSD.out; rw [hX] at h; exact h)
  clear hX hY hZ
  obtain ⟨kda, nna, uua, sa, Aa, ma, ca, Ba, na, da, bsa, ha, hNa⟩ := HT7.out
  obtain ⟨z0a, z1a, z2a, z3a, z4a, z5a⟩ := cells6 ha
  have HG := get_any D p w2 _ _ _ _ _ _ A8 c8 (NRep.reads _ _ _ hNa) HSD.out HR8.out
  rw [HGX.out] at HG
  replace HG := Lib.hid HG
  clear hNa
  go_wp2_with fail
  refine (HG.out).mono ?_
  rintro e w3 ⟨hne, hb⟩
  replace HL := Lib.hid (HL.out.next hb)
  replace HR8 := Lib.hid (Rd.below HR8.out hb)
  replace HR9 := Lib.hid (Rd.below HR9.out hb)
  replace HT7 := Lib.hid (HT7.out.below hb)
  obtain ⟨v, rfl, hF⟩ := hne.two
  clear hb ha z0a z1a z2a z3a z4a z5a HG
  obtain ⟨y0, y1, y2, y3, y4, y5, bsx1, rfl, hNx1, -, -⟩ := hF
  obtain ⟨kdx1, nnx1, uux1, sx1, Ax1, mx1, cx1, Bx1, nx1, dx1, rfl, rfl, rfl, rfl, rfl, rfl⟩ := hNx1.form2
  go_upto_region 3 with fail
  refine wp_named (fun wn => Below w3.heap.size w3 wn ∧ wn.heap[w3.heap.size]? = some (.cells #[.int .i64 kdx1, .int .i64 nnx1, .int .u64 uux1, .string sx1, .slice Ax1 mx1 cx1, .slice Bx1 nx1 dx1] 38 (0, 0))) ⟨(Below.refl _ w3).alloc (Nat.le_refl _) _, heap_alloc_new _ _⟩ ?_
  rintro w4 ⟨hb, hP⟩
  replace HL := Lib.hid (HL.out.next hb)
  replace HR8 := Lib.hid (Rd.below HR8.out hb)
  replace HR9 := Lib.hid (Rd.below HR9.out hb)
  replace HT7 := Lib.hid (HT7.out.below hb)
  have HT10 := Lib.hid (show TB w4 w3.heap.size X from ⟨_, _, _, _, _, _, _, _, _, _, _, hP, hNx1.below hb⟩)
  clear hb hP hNx1
  generalize w3.heap.size = P10 at HT10 ⊢
  obtain ⟨kda, nna, uua, sa, Aa, ma, ca, Ba, na, da, bsa, ha, hNa⟩ := HT10.out
  obtain ⟨z0a, z1a, z2a, z3a, z4a, z5a⟩ := cells6 ha
  have HG := get_any X q w4 _ _ _ _ _ _ A9 c9 (NRep.reads _ _ _ hNa) HSX.out HR9.out
  rw [HGY.out] at HG
  replace HG := Lib.hid HG
  clear hNa
  go_wp2_with fail
  refine (HG.out).mono ?_
  rintro e w5 ⟨hne, hb⟩
  replace HL := Lib.hid (HL.out.next hb)
  replace HR8 := Lib.hid (Rd.below HR8.out hb)
  replace HR9 := Lib.hid (Rd.below HR9.out hb)
  replace HT7 := Lib.hid (HT7.out.below hb)
  replace HT10 := Lib.hid (HT10.out.below hb)
  obtain ⟨v, rfl, hF⟩ := hne.two
  clear hb ha z0a z1a z2a z3a z4a z5a HG
  obtain ⟨y0, y1, y2, y3, y4, y5, bsy1, rfl, hNy1, -, -⟩ := hF
  obtain ⟨kdy1, nny1, uuy1, sy1, Ay1, my1, cy1, By1, ny1, dy1, rfl, rfl, rfl, rfl, rfl, rfl⟩ := hNy1.form2
  go_upto_region 4 with fail
  refine wp_named (fun wn => Below w5.heap.size w5 wn ∧ wn.heap[w5.heap.size]? = some (.cells #[.int .i64 kdy1, .int .i64 nny1, .int .u64 uuy1, .string sy1, .slice Ay1 my1 cy1, .slice By1 ny1 dy1] 38 (0, 0))) ⟨(Below.refl _ w5).alloc (Nat.le_refl _) _, heap_alloc_new _ _⟩ ?_
  rintro wr ⟨hb, hP⟩
  replace HL := Lib.hid (HL.out.next hb)
  replace HR8 := Lib.hid (Rd.below HR8.out hb)
  replace HR9 := Lib.hid (Rd.below HR9.out hb)
  replace HT7 := Lib.hid (HT7.out.below hb)
  replace HT10 := Lib.hid (HT10.out.below hb)
  have HT12 := Lib.hid (show TB wr w5.heap.size Y from ⟨_, _, _, _, _, _, _, _, _, _, _, hP, hNy1.below hb⟩)
  clear hb hP hNy1
  generalize w5.heap.size = P12 at HT12 ⊢
  obtain ⟨kda, nna, uua, sa, Aa, ma, ca, Ba, na, da, bsa, ha, hNa⟩ := HT7.out
  obtain ⟨z0a, z1a, z2a, z3a, z4a, z5a⟩ := cells6 ha
  have h7r := ha
  have HN7 := Lib.hid hNa
  clear hNa ha z0a z1a z2a z3a z4a z5a
  refine wp_region_each3P (n := 66) (ia := 10) (is_ := 11) (ix := 5) [35, 36, 37, 38, 39, 40, 41, 34, 42, 43, 14, 15] [6, 7, 8, 9, 11, 12] (pj4 wr.heap.size P7 kda nna uua sa Aa ma ca Ba na da A8 c8 A9 c9 p q Z g) (blkT Z) (by kernel_rfl) (by kernel_rfl) rfl (by kernel_rfl) (pj4_st wr.heap.size P7 kda nna uua sa Aa ma ca Ba na da A8 c8 A9 c9 p q Z g) (blkT_st Z) ?_ rfl rfl rfl (fun a w K hK => opwp_allocN rfl a w K hK) (fun _ _ => rfl) (fun w => heap_alloc_new _ _) rfl rfl ?_ (by kernel_rfl) rfl (by decide) (by decide) (by kernel_rfl) (by decide) ?_ ?_ ?_
  · intro b hb t ht
    unfold pj4
    split
    · rfl
    · rfl
    · rfl
    · exact absurd rfl (ht 0 _ rfl)
    · exact absurd rfl (ht 1 _ rfl)
    · exact absurd rfl (ht 2 _ rfl)
    · exact absurd rfl (ht 3 _ rfl)
    · exact absurd rfl (ht 4 _ rfl)
    · exact absurd rfl (ht 5 _ rfl)
    · exact absurd rfl (ht 6 _ rfl)
    · exact absurd rfl (ht 7 _ rfl)
    · exact absurd rfl (ht 8 _ rfl)
    · exact absurd rfl (ht 9 _ rfl)
    · exact absurd rfl (ht 10 _ rfl)
    · exact absurd rfl (ht 12 _ rfl)
    · trivial
  · intro b a w hB hb1 hb2 hk hblk
    refine ⟨rfl, ?_⟩
    have ep : a.eval (.tmp 14) = .pointer (some ⟨b, 0, none⟩) := hk 14 (by decide)
    obtain ⟨kd', nn', uu', s', A', m', c', A2', m2', c2', bs', ev, hn, hbn⟩ : NVp w Z b (a.eval (.tmp 42)) := hk 42 (by decide)
    refine opwp_storeN rfl rfl ep ev hblk ?_
    intro w' q1 q2 q3 q4
    exact ⟨rfl, q2, q3, q4 wr hb1 hB, kd', nn', uu', s', A', m', c', A2', m2', c2', bs', q1, hn.ext q2 hbn⟩
  · intro B a w hB hb hk
    obtain ⟨b0, hb0⟩ := hB
    have ex : a.eval (.tmp 39) = .slice A9 q.length c9 := hk b0 hb0 39 (by decide)
    have h38 : ∀ b, B b → RQp wr.heap.size w p b (a.eval (.tmp 38)) := fun b hb => hk b hb 38 (by decide)
    obtain ⟨v', w', hr, ho, hg, hwh, hkeep⟩ := app_steps (World.ownsRow.mono (h38 b0 hb0).1 (Nat.zero_le _)) (Rd.below HR9.out hb) (by omega) _
    have hlt := (h38 b0 hb0).1.lt
    have hB3 : Below wr.heap.size w w' := ⟨hg.os, hg.tape, hg.output, hg.size, fun k hk => hg.block k (Nat.lt_of_lt_of_le hk hb.size) fun e => by have := hlt k e.symm; omega⟩
    refine ⟨rfl, opwp_app rfl rfl ex hr ⟨hb.trans hB3, hg.size, v', rfl, fun b hbB hbb => ⟨fun d hd => ?_, fun hb1 hz => ?_, fun t u hdx hl => ?_⟩⟩⟩
    · cases hd
      exact app_lie hb.size hlt (h38 b hbB).2 hbb ho hwh
    · exact (hg.block b hb1 fun e => (h38 b hbB).2 e.symm).trans hz
    · unfold pj4
      split
      · exact id
      · exact id
      · exact id
      · exact id
      · exact fun h => h.of (hkeep _ _ _ _ (Nat.zero_le _) h.owns)
      · exact id
      · exact fun h => ⟨hkeep _ _ _ _ (Nat.le_refl _) h.1, h.2⟩
      · exact id
      · exact absurd rfl hdx
      · exact absurd rfl (hl 6 _ (by decide) rfl)
      · exact absurd rfl (hl 7 _ (by decide) rfl)
      · exact absurd rfl (hl 8 _ (by decide) rfl)
      · exact id
      · exact id
      · exact id
      · exact id
  · intro jq oq hjq hne1 hne2 hne3
    match jq, hjq, hne1, hne2, hne3 with
    | 0, hjq, _, _, _ =>
      simp only [List.getElem?_toArray, List.getElem?_cons_zero, List.getElem?_cons_succ, Option.some.injEq] at hjq
      subst hjq
      intro B a w hB hb hk
      obtain ⟨b0, hb0⟩ := hB
      have e7 : a.eval (.tmp 7) = .pointer (some ⟨P7, 0, none⟩) := hk b0 hb0 7 (by decide)
      refine ⟨rfl, opwp_load6 rfl e7 (below_row h7r hb) ?_⟩
      exact ⟨Below.refl _ _, _, rfl, fun d hd b _ _ => by cases hd; rfl⟩
    | 1, hjq, _, _, _ =>
      simp only [List.getElem?_toArray, List.getElem?_cons_zero, List.getElem?_cons_succ, Option.some.injEq] at hjq
      subst hjq
      intro B a w hB hb hk
      obtain ⟨b0, hb0⟩ := hB
      refine ⟨rfl, opwp_bs0 rfl ?_⟩
      refine ⟨(Below.refl _ _).alloc (Nat.le_refl _) _, _, rfl, fun d hd b _ hbb => ?_⟩
      cases hd
      rw [World.size_alloc] at hbb
      exact ⟨w.heap.size, rfl, hb.size, by omega, heap_alloc_new _ _⟩
    | 2, hjq, _, _, _ =>
      simp only [List.getElem?_toArray, List.getElem?_cons_zero, List.getElem?_cons_succ, Option.some.injEq] at hjq
      subst hjq
      intro B a w hB hb hk
      obtain ⟨b0, hb0⟩ := hB
      have e8 : a.eval (.tmp 8) = .slice A8 p.length c8 := hk b0 hb0 8 (by decide)
      refine ⟨rfl, opwp_move rfl e8 ?_⟩
      exact ⟨Below.refl _ _, _, rfl, fun d hd b _ _ => by cases hd; rfl⟩
    | 3, hjq, _, _, _ =>
      simp only [List.getElem?_toArray, List.getElem?_cons_zero, List.getElem?_cons_succ, Option.some.injEq] at hjq
      subst hjq
      intro B a w hB hb hk
      obtain ⟨b0, hb0⟩ := hB
      have e37 : a.eval (.tmp 37) = .slice A8 p.length c8 := hk b0 hb0 37 (by decide)
      have h36 : ∀ b, B b → E0p wr.heap.size w b (a.eval (.tmp 36)) := fun b hb => hk b hb 36 (by decide)
      obtain ⟨v', w', hr, ho, hg, hwh, hkeep⟩ := app_steps (p := []) (World.ownsRow.mono (h36 b0 hb0).owns (Nat.zero_le _)) (Rd.below HR8.out hb) (by simp only [List.length_nil]; omega) _
      rw [List.nil_append] at ho
      refine ⟨rfl, opwp_app rfl rfl e37 hr ?_⟩
      have hlt := (h36 b0 hb0).owns.lt
      have hsame := (h36 b0 hb0).of (hkeep _ _ _ _ (Nat.le_refl _) (h36 b0 hb0).owns)
      obtain ⟨g0, eg0, hg1, -, hrow0⟩ := h36 b0 hb0
      obtain ⟨g1, eg1, -, -, hrow1⟩ := hsame
      have hgg : g1 = g0 := by rw [eg0] at eg1; injection eg1 with e1; injection e1 with e1; injection e1 with e1; exact e1.symm
      subst hgg
      have hown : (a.eval (.tmp 36)).ownBlock = some g1 := by rw [eg0]; rfl
      refine ⟨⟨hg.os, hg.tape, hg.output, hg.size, fun k hk => ?_⟩, _, rfl, fun d hd b hbB hbb => ?_⟩
      · by_cases hkg : k = g1
        · subst hkg
          exact hrow1.trans hrow0.symm
        · exact hg.block k hk (by rw [hown]; exact fun e => hkg (Option.some.inj e))
      · cases hd
        exact app_lie hb.size hlt (by obtain ⟨g2, eg2, -, h2, -⟩ := h36 b hbB; rw [eg2]; exact fun e => h2 (Option.some.inj e)) hbb ho hwh
    | 4, hjq, _, _, _ =>
      simp only [List.getElem?_toArray, List.getElem?_cons_zero, List.getElem?_cons_succ, Option.some.injEq] at hjq
      subst hjq
      intro B a w hB hb hk
      obtain ⟨b0, hb0⟩ := hB
      have e9 : a.eval (.tmp 9) = .slice A9 q.length c9 := hk b0 hb0 9 (by decide)
      refine ⟨rfl, opwp_move rfl e9 ?_⟩
      exact ⟨Below.refl _ _, _, rfl, fun d hd b _ _ => by cases hd; rfl⟩
    | 5, hjq, _, _, h => exact absurd rfl h
    | 6, hjq, _, _, _ =>
      simp only [List.getElem?_toArray, List.getElem?_cons_zero, List.getElem?_cons_succ, Option.some.injEq] at hjq
      subst hjq
      intro B a w hB hb hk
      obtain ⟨b0, hb0⟩ := hB
      have e35 : a.eval (.tmp 35) = .agg #[.int .i64 kda, .int .i64 nna, .int .u64 uua, .string sa, .slice Aa ma ca, .slice Ba na da] := hk b0 hb0 35 (by decide)
      have h40 : RQp wr.heap.size w (p ++ q) b0 (a.eval (.tmp 40)) := hk b0 hb0 40 (by decide)
      obtain ⟨A40, c40, e40⟩ := owns_ptr h40.1
      refine ⟨rfl, opwp_call (fun v w' => Below w.heap.size w w' ∧ ∀ b, B b → (b < w.heap.size ∨ w'.heap.size ≤ b) → SVp w' Z g b v) (exec_call [a.eval (.tmp 35), a.eval (.tmp 40)] Tryz.func22 (by kernel_rfl) rfl rfl rfl) ?_ ?_⟩
      · rw [e35, e40]
        have h41 := h40.1
        rw [e40] at h41
        have hg := get_any D (p ++ q) w _ _ _ _ _ _ A40 c40 (RRep.below hb _ _ (NRep.reads _ _ _ HN7.out)) HSD.out (Rd.of_owns h41)
        rw [HGZ.out] at hg
        refine hg.mono ?_
        rintro e w' ⟨⟨v, rfl, hf⟩, h⟩
        exact ⟨_, rfl, h, fun b _ hbb => ⟨v, rfl, fresh_nvp hf hbb⟩⟩
      · rintro v w' ⟨h, hv⟩
        exact ⟨h, _, rfl, fun d hd b hbB hbb => by cases hd; exact hv b hbB hbb⟩
    | 7, hjq, _, _, _ =>
      simp only [List.getElem?_toArray, List.getElem?_cons_zero, List.getElem?_cons_succ, Option.some.injEq] at hjq
      subst hjq
      intro B a w hB hb hk
      obtain ⟨b0, hb0⟩ := hB
      have h0 : ∀ b, B b → SVp w Z g b (a.eval (.tmp 41)) := fun b hb => hk b hb 41 (by decide)
      refine ⟨rfl, opwp_move rfl rfl ?_⟩
      exact ⟨Below.refl _ _, _, rfl, fun d hd b hbB _ => by cases hd; exact h0 b hbB⟩
    | 8, hjq, _, _, _ =>
      simp only [List.getElem?_toArray, List.getElem?_cons_zero, List.getElem?_cons_succ, Option.some.injEq] at hjq
      subst hjq
      intro B a w hB hb hk
      obtain ⟨b0, hb0⟩ := hB
      have h0 : ∀ b, B b → SVp w Z g b (a.eval (.tmp 34)) := fun b hb => hk b hb 34 (by decide)
      obtain ⟨u, eu, -⟩ := h0 b0 hb0
      refine ⟨rfl, opwp_ext u rfl eu rfl ?_⟩
      refine ⟨Below.refl _ _, _, rfl, fun d hd b hbB _ => ?_⟩
      cases hd
      obtain ⟨u', eu', hu⟩ := h0 b hbB
      rw [eu] at eu'
      cases eu'
      exact hu
    | 9, hjq, _, _, _ =>
      simp only [List.getElem?_toArray, List.getElem?_cons_zero, List.getElem?_cons_succ, Option.some.injEq] at hjq
      subst hjq
      intro B a w hB hb hk
      obtain ⟨b0, hb0⟩ := hB
      obtain ⟨u, eu, -⟩ : SVp w Z g b0 (a.eval (.tmp 34)) := hk b0 hb0 34 (by decide)
      refine ⟨rfl, opwp_ext (.int .i64 g) rfl eu rfl ?_⟩
      exact ⟨Below.refl _ _, _, rfl, fun d hd b _ _ => by cases hd; rfl⟩
    | 10, hjq, h, _, _ => exact absurd rfl h
    | 11, hjq, _, h, _ => exact absurd rfl h
    | 12, hjq, _, _, _ =>
      simp only [List.getElem?_toArray, List.getElem?_cons_zero, List.getElem?_cons_succ, Option.some.injEq] at hjq
      subst hjq
      intro B a w hB hb hk
      obtain ⟨b0, hb0⟩ := hB
      have e43 : a.eval (.tmp 43) = .int .i64 g := hk b0 hb0 43 (by decide)
      refine ⟨rfl, opwp_assign rfl e43 ?_⟩
      exact ⟨Below.refl _ _, _, rfl, fun d hd b _ _ => by cases hd; rfl⟩
    | kq + 13, hjq, _, _, _ => cases hjq
  rintro P14 ff w6 hb hp1 hp2 hp hblk
  have e14 : ff 14 = .pointer (some ⟨P14, 0, none⟩) := hp 14 (by decide)
  have e15 : ff 15 = .int .i64 g := hp 15 (by decide)
  simp only [puts, List.foldl, Act.put, List.setIfInBounds_toArray, List.set_cons_zero, List.set_cons_succ, e14, e15]
  generalize ff 35 = v35
  generalize ff 36 = v36
  generalize ff 37 = v37
  generalize ff 38 = v38
  generalize ff 39 = v39
  generalize ff 40 = v40
  generalize ff 41 = v41
  generalize ff 34 = v34
  generalize ff 42 = v42
  generalize ff 43 = v43
  replace HL := Lib.hid (HL.out.next hb)
  replace HR8 := Lib.hid (Rd.below HR8.out hb)
  replace HR9 := Lib.hid (Rd.below HR9.out hb)
  replace HT7 := Lib.hid (HT7.out.below hb)
  replace HT10 := Lib.hid (HT10.out.below hb)
  replace HT12 := Lib.hid (HT12.out.below hb)
  have HT14 := Lib.hid (TB.of_blk hblk)
  clear hb hp1 hp2 hp hblk e14 e15 h7r HN7
  by_cases h0 : er = 0
  · subst h0
    have hj := getR_app D p q (by rw [HGX.out])
    rw [HGX.out, HGZ.out] at hj
    obtain ⟨hj1, hj2⟩ := pair_eq (hj.trans HGY.out)
    clear hj HGX HGY HGZ
    subst hj1 hj2
    have heq : (g == g) = true := beq_self_eq_true _
    obtain ⟨kda, nna, uua, sa, Aa, ma, ca, Ba, na, da, bsa, ha, hNa⟩ := HT12.out
    obtain ⟨z0a, z1a, z2a, z3a, z4a, z5a⟩ := cells6 ha
    obtain ⟨kdb, nnb, uub, sb, Ab, mb, cb, Bb, nb, db, bsb, hb, hNb⟩ := HT14.out
    obtain ⟨z0b, z1b, z2b, z3b, z4b, z5b⟩ := cells6 hb
    have HSA := Lib.hid (same_any Z Z w6 w6 _ _ _ _ _ _ _ _ _ _ _ _ (Below.refl _ _) (NRep.reads _ _ _ hNa) (NRep.reads _ _ _ hNb))
    clear hNa hNb
    go_wp2_with fail
    refine (HSA.out).mono ?_
    rintro e w7 ⟨bb, rfl, hiff, hb⟩
    replace HL := Lib.hid (HL.out.next hb)
    replace HR8 := Lib.hid (Rd.below HR8.out hb)
    replace HR9 := Lib.hid (Rd.below HR9.out hb)
    replace HT7 := Lib.hid (HT7.out.below hb)
    replace HT10 := Lib.hid (HT10.out.below hb)
    replace HT12 := Lib.hid (HT12.out.below hb)
    replace HT14 := Lib.hid (HT14.out.below hb)
    obtain rfl : bb = true := hiff.2 rfl
    clear hb hiff ha z0a z1a z2a z3a z4a z5a z0b z1b z2b z3b z4b z5b HSA
    have HW := Lib.hid (works_any w w7 HL.out)
    go_wp2_with fail
    refine HW.out.mono ?_
    rintro e w8 ⟨rfl, h5⟩
    replace HL := Lib.hid h5
    clear h5 HW
    go_wp2_with fail
    go_ret
    exact ⟨rfl, by rw [HBB.out]; exact HL.out.b⟩
  · have h0' : (er != 0) = true := by simpa using h0
    obtain ⟨h80, h81⟩ := getR_app_err D p q (by rw [HGX.out]; exact h0)
    rw [HGX.out] at h80
    rw [HGZ.out] at h81
    have he80 : (er == 80) = true := by simpa using h80
    have hg80 : (g == 80) = true := by simpa using h81
    clear h0 h80 h81 HGX HGY HGZ
    have HW := Lib.hid (works_any w w6 HL.out)
    go_wp2_with fail
    refine HW.out.mono ?_
    rintro e w7 ⟨rfl, h5⟩
    replace HL := Lib.hid h5
    clear h5 HW
    go_wp2_with fail
    go_ret
    exact ⟨rfl, by rw [HBB.out]; exact HL.out.b⟩
end
end Go.Proofs.YtlblddeemkefkaaGreatDoor
