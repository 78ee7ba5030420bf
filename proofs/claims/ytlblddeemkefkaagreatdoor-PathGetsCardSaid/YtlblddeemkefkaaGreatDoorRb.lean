/- The walk of accordionlaw08.PathGets: written by wip/gen/pg.py. -/
import Derived.Test.YtlblddeemkefkaaGreatDoorRc
import Derived.Test.YtlblddeemkefkaaGreatDoorSz
namespace Go.Proofs.YtlblddeemkefkaaGreatDoor
set_option linter.unusedVariables false
set_option linter.unusedSimpArgs false
section
open Go.RowKit
/-- A tree in new blocks of its own, not in block b. -/
def FVp (B : Nat) (w : World) (D : DT) (b : Nat) (v : Value) : Prop := ∃ kd nn uu s A m c A' m' c' bs, v = .agg #[.int .i64 kd, .int .i64 nn, .int .u64 uu, .string s, .slice A m c, .slice A' m' c'] ∧ NRep w D [.int .i64 kd, .int .i64 nn, .int .u64 uu, .string s, .slice A m c, .slice A' m' c'] bs ∧ b ∉ bs ∧ bs.Nodup ∧ ∀ i ∈ bs, B ≤ i
theorem FVp.ext {B : Nat} {w w' : World} {D : DT} {b : Nat} {v : Value} (h : FVp B w D b v) (hE : ExtB b w w') : FVp B w' D b v := by
  obtain ⟨kd, nn, uu, s, A, m, c, A', m', c', bs, e, h1, h2, h3⟩ := h
  exact ⟨kd, nn, uu, s, A, m, c, A', m', c', bs, e, h1.ext hE h2, h2, h3⟩
def GVp (B : Nat) (w : World) (D : DT) (x : Int) (b : Nat) (v : Value) : Prop := ∃ u, v = .tuple #[u, .int .i64 x] ∧ FVp B w D b u
theorem GVp.ext {B : Nat} {w w' : World} {D : DT} {x : Int} {b : Nat} {v : Value} (h : GVp B w D x b v) (hE : ExtB b w w') : GVp B w' D x b v := by
  obtain ⟨u, e, h⟩ := h
  exact ⟨u, e, h.ext hE⟩
theorem fresh_fvp {B b : Nat} {w w' : World} {D : DT} {v : Value} (h : Fresh w.heap.size w' D v) (hb : b < w.heap.size ∨ w'.heap.size ≤ b) (hB : B ≤ w.heap.size) : FVp B w' D b v := by
  obtain ⟨x0, x1, x2, x3, x4, x5, bs, rfl, h1, h2, h3⟩ := h
  have hbd := h1.bd _ _ _
  obtain ⟨kd, n, u, s, A1, m1, c1, A2, m2, c2, rfl, rfl, rfl, rfl, rfl, rfl⟩ := h1.form2
  exact ⟨_, _, _, _, _, _, _, _, _, _, bs, rfl, h1, fun hi => by have := h3 b hi; have := hbd b hi; omega, h2, fun i hi => Nat.le_trans hB (h3 i hi)⟩
def blkF (B : Nat) (X : DT) (b : Nat) (s : Bool) (w : World) : Prop := match s with
  | false => w.heap[b]? = some (.cells zCells 38 (0, 0))
  | true => ∃ kd nn uu s A m c A' m' c' bs, w.heap[b]? = some (.cells #[.int .i64 kd, .int .i64 nn, .int .u64 uu, .string s, .slice A m c, .slice A' m' c'] 38 (0, 0)) ∧ NRep w X [.int .i64 kd, .int .i64 nn, .int .u64 uu, .string s, .slice A m c, .slice A' m' c'] bs ∧ bs.Nodup ∧ ∀ i ∈ bs, B ≤ i
theorem blkF_st (B : Nat) (X : DT) : ∀ (b : Nat) (s : Bool) (w w' : World), b < w.heap.size → Below w.heap.size w w' → blkF B X b s w → blkF B X b s w' := by
  intro b s w w' hb hB
  unfold blkF
  split
  · intro h
    exact below_row h hB
  · rintro ⟨kd, nn, uu, s, A, m, c, A', m', c', bs, h1, h2, h3⟩
    exact ⟨kd, nn, uu, s, A, m, c, A', m', c', bs, below_row h1 hB, h2.below hB, h3⟩
theorem TB.low {w w' : World} {P : Nat} {D : DT} (h : TB w P D) (hb : Below w.heap.size w w') : TB w' P D := h.below hb
def pg2 (HS P5 : Nat) (kda nna uua : Int) (sa : ByteArray) (Aa : Option Addr) (ma ca : Nat) (Ba : Option Addr) (na da : Nat) (Aq : Option Addr) (nq cq : Nat) (p : List PS) (X : DT) (er : Int) : Posts := fun b t v w => match t with
  | 5 => v = .pointer (some ⟨P5, 0, none⟩)
  | 1 => v = .slice Aq nq cq
  | 14 => v = .agg #[.int .i64 kda, .int .i64 nna, .int .u64 uua, .string sa, .slice Aa ma ca, .slice Ba na da]
  | 15 => v = .slice Aq nq cq
  | 16 => QVp w p b v
  | 17 => GVp HS w X er b v
  | 13 => GVp HS w X er b v
  | 18 => FVp HS w X b v
  | 19 => v = .int .i64 er
  | 6 => v = .pointer (some ⟨b, 0, none⟩)
  | 7 => v = .int .i64 er
  | _ => True
theorem pg2_st (HS P5 : Nat) (kda nna uua : Int) (sa : ByteArray) (Aa : Option Addr) (ma ca : Nat) (Ba : Option Addr) (na da : Nat) (Aq : Option Addr) (nq cq : Nat) (p : List PS) (X : DT) (er : Int) : ∀ (b : Nat) (t : Tmp) (v : Value) (w w' : World), ExtB b w w' → pg2 HS P5 kda nna uua sa Aa ma ca Ba na da Aq nq cq p X er b t v w → pg2 HS P5 kda nna uua sa Aa ma ca Ba na da Aq nq cq p X er b t v w' := by
  intro b t v w w' hE
  unfold pg2
  split
  · exact id
  · exact id
  · exact id
  · exact id
  · exact fun h => h.ext hE
  · exact fun h => h.ext hE
  · exact fun h => h.ext hE
  · exact fun h => h.ext hE
  · exact id
  · exact id
  · exact id
  · exact id
def pg3 (HS P5 : Nat) (kda nna uua : Int) (sa : ByteArray) (Aa : Option Addr) (ma ca : Nat) (Ba : Option Addr) (na da : Nat) (Aq : Option Addr) (nq cq : Nat) (p : List PS) (X : DT) (er : Int) : Posts := fun b t v w => match t with
  | 5 => v = .pointer (some ⟨P5, 0, none⟩)
  | 1 => v = .slice Aq nq cq
  | 21 => v = .agg #[.int .i64 kda, .int .i64 nna, .int .u64 uua, .string sa, .slice Aa ma ca, .slice Ba na da]
  | 22 => v = .slice Aq nq cq
  | 23 => QVp w p b v
  | 24 => GVp HS w X er b v
  | 20 => GVp HS w X er b v
  | 25 => FVp HS w X b v
  | 26 => v = .int .i64 er
  | 8 => v = .pointer (some ⟨b, 0, none⟩)
  | 9 => v = .int .i64 er
  | _ => True
theorem pg3_st (HS P5 : Nat) (kda nna uua : Int) (sa : ByteArray) (Aa : Option Addr) (ma ca : Nat) (Ba : Option Addr) (na da : Nat) (Aq : Option Addr) (nq cq : Nat) (p : List PS) (X : DT) (er : Int) : ∀ (b : Nat) (t : Tmp) (v : Value) (w w' : World), ExtB b w w' → pg3 HS P5 kda nna uua sa Aa ma ca Ba na da Aq nq cq p X er b t v w → pg3 HS P5 kda nna uua sa Aa ma ca Ba na da Aq nq cq p X er b t v w' := by
  intro b t v w w' hE
  unfold pg3
  split
  · exact id
  · exact id
  · exact id
  · exact id
  · exact fun h => h.ext hE
  · exact fun h => h.ext hE
  · exact fun h => h.ext hE
  · exact fun h => h.ext hE
  · exact id
  · exact id
  · exact id
  · exact id
def pg6 (P2 P5 : Nat) (kdx nnx uux : Int) (sx : ByteArray) (Ax : Option Addr) (mx cx : Nat) (Bx : Option Addr) (nx dx : Nat) (kda nna uua : Int) (sa : ByteArray) (Aa : Option Addr) (ma ca : Nat) (Ba : Option Addr) (na da : Nat) (D : DT) : Posts := fun b t v w => match t with
  | 2 => v = .pointer (some ⟨P2, 0, none⟩)
  | 5 => v = .pointer (some ⟨P5, 0, none⟩)
  | 10 => v = .bool true
  | 37 => v = .bool true
  | 38 => v = .bool true
  | 39 => v = .agg #[.int .i64 kda, .int .i64 nna, .int .u64 uua, .string sa, .slice Aa ma ca, .slice Ba na da]
  | 40 => v = .agg #[.int .i64 kdx, .int .i64 nnx, .int .u64 uux, .string sx, .slice Ax mx cx, .slice Bx nx dx]
  | 41 => NVp w D b v
  | 42 => v = .bool true
  | 43 => v = .bool true
  | 44 => v = .bool true
  | 45 => v = .bool true
  | 46 => v = .bool true
  | 4 => v = .bool true
  | _ => True
theorem pg6_st (P2 P5 : Nat) (kdx nnx uux : Int) (sx : ByteArray) (Ax : Option Addr) (mx cx : Nat) (Bx : Option Addr) (nx dx : Nat) (kda nna uua : Int) (sa : ByteArray) (Aa : Option Addr) (ma ca : Nat) (Ba : Option Addr) (na da : Nat) (D : DT) : ∀ (b : Nat) (t : Tmp) (v : Value) (w w' : World), ExtB b w w' → pg6 P2 P5 kdx nnx uux sx Ax mx cx Bx nx dx kda nna uua sa Aa ma ca Ba na da D b t v w → pg6 P2 P5 kdx nnx uux sx Ax mx cx Bx nx dx kda nna uua sa Aa ma ca Ba na da D b t v w' := by
  intro b t v w w' hE
  unfold pg6
  split
  · exact id
  · exact id
  · exact id
  · exact id
  · exact id
  · exact id
  · exact id
  · exact fun h => h.ext hE
  · exact id
  · exact id
  · exact id
  · exact id
  · exact id
  · exact id
  · exact id
set_option maxHeartbeats 32000000 in
set_option maxRecDepth 100000 in
theorem pathGets_any (T : DT) (P0 : List PS) (w : World) (x0 x1 x2 x3 x4 x5 : Value) (Aq : Option Addr) (cq : Nat) (hx : RRep w T [x0, x1, x2, x3, x4, x5]) (hwT : WfD T)
    (hp : StepRd w (.slice Aq P0.length cq) P0) (hsp : StepsOk P0) (hT : ShowTabs w) :
    Calls Tryz.prog 5 #[.agg #[x0, x1, x2, x3, x4, x5], .slice Aq P0.length cq] w fun e w' => e = .returned (.bool true) ∧ Below w.heap.size w w' := by
  obtain ⟨BB, hBB⟩ : ∃ b, b = w.heap.size := ⟨_, rfl⟩
  rw [← hBB]
  have HBB := Lib.hid hBB
  have HF := Lib.hid (fun (V : World) (hV : Below w.heap.size w V) => few8_any T V _ _ _ _ _ _ (RRep.below hV _ _ hx) hwT)
  have HCP := Lib.hid (fun (V : World) (hV : Below w.heap.size w V) => cut8_any P0 Aq cq V (Rd.below hp hV) fun s hs => (hsp s hs).1)
  have HSD := Lib.hid (few_small T)
  generalize fewD T = D at *
  generalize cutP P0 = p at *
  have HLT := Lib.hid hT
  obtain ⟨kdx, nnx, uux, sx, Ax, mx, cx, Bx, nx, dx, hcs⟩ := hx.cs6
  simp only [List.cons.injEq, and_true] at hcs
  obtain ⟨rfl, rfl, rfl, rfl, rfl, rfl⟩ := hcs
  clear hx hwT hp hsp hT hBB
  generalize P0.length = nq at *
  go_enter Tryz.func5, Tryz.ntmps5
  go_upto_region 1 with fail
  refine wp_named (fun wn => Below w.heap.size w wn ∧ wn.heap[w.heap.size]? = some (.cells #[.int .i64 kdx, .int .i64 nnx, .int .u64 uux, .string sx, .slice Ax mx cx, .slice Bx nx dx] 38 (0, 0))) ⟨(Below.refl _ w).alloc (Nat.le_refl _) _, heap_alloc_new _ _⟩ ?_
  rintro wn ⟨hbn, h3⟩
  generalize w.heap.size = P2 at h3 ⊢
  have HL := Lib.hid (show LW w wn from ⟨hbn, HLT.out.below hbn⟩)
  have H2 := Lib.hid h3
  obtain ⟨z0, z1, z2, z3, z4, z5⟩ := cells6 h3
  have HBF := Lib.hid HL.out.b
  clear hbn HLT
  go_wp2_with fail
  refine (HF.out wn HBF.out).mono ?_
  rintro e w1 ⟨⟨v, rfl, hF⟩, hb⟩
  replace HL := Lib.hid (HL.out.next hb)
  replace H2 := Lib.hid (below_row H2.out hb)
  obtain ⟨y0, y1, y2, y3, y4, y5, bsm, rfl, hNm, -, -⟩ := hF
  obtain ⟨kdm, nnm, uum, sm, Am, mm, cm, Bm, nm, dm, rfl, rfl, rfl, rfl, rfl, rfl⟩ := hNm.form2
  clear hb h3 z0 z1 z2 z3 z4 z5 HBF
  go_upto_region 2 with fail
  refine wp_named (fun wn => Below w1.heap.size w1 wn ∧ wn.heap[w1.heap.size]? = some (.cells #[.int .i64 kdm, .int .i64 nnm, .int .u64 uum, .string sm, .slice Am mm cm, .slice Bm nm dm] 38 (0, 0))) ⟨(Below.refl _ w1).alloc (Nat.le_refl _) _, heap_alloc_new _ _⟩ ?_
  rintro wk ⟨hb, hP⟩
  replace HL := Lib.hid (HL.out.next hb)
  replace H2 := Lib.hid (below_row H2.out hb)
  have HT5 := Lib.hid (show TB wk w1.heap.size D from ⟨_, _, _, _, _, _, _, _, _, _, _, hP, hNm.below hb⟩)
  clear hb hP hNm
  generalize w1.heap.size = P5 at HT5 ⊢
  obtain ⟨X, er, hX⟩ : ∃ X er, getR D p = (X, er) := ⟨_, _, rfl⟩
  have HGX := Lib.hid hX
  clear hX
  obtain ⟨kda, nna, uua, sa, Aa, ma, ca, Ba, na, da, bsa, ha, hNa⟩ := HT5.out
  obtain ⟨z0a, z1a, z2a, z3a, z4a, z5a⟩ := cells6 ha
  have h5r := ha
  have HN5 := Lib.hid hNa
  have HBW := Lib.hid HL.out.b
  clear hNa ha z0a z1a z2a z3a z4a z5a
  refine wp_region_each1P (n := 47) (ia := 7) (is_ := 8) [14, 15, 16, 17, 13, 18, 19, 6, 7] (pg2 wk.heap.size P5 kda nna uua sa Aa ma ca Ba na da Aq nq cq p X er) (blkF wk.heap.size X) (by kernel_rfl) (by kernel_rfl) rfl (by kernel_rfl) (pg2_st wk.heap.size P5 kda nna uua sa Aa ma ca Ba na da Aq nq cq p X er) (blkF_st wk.heap.size X) ?_ rfl rfl rfl (fun a w K hK => opwp_allocN rfl a w K hK) (fun _ _ => rfl) (fun w => heap_alloc_new _ _) rfl rfl ?_ (by kernel_rfl) ?_ ?_
  · intro b hb t ht
    unfold pg2
    split
    · rfl
    · rfl
    · exact absurd rfl (ht 0 _ rfl)
    · exact absurd rfl (ht 1 _ rfl)
    · exact absurd rfl (ht 2 _ rfl)
    · exact absurd rfl (ht 3 _ rfl)
    · exact absurd rfl (ht 4 _ rfl)
    · exact absurd rfl (ht 5 _ rfl)
    · exact absurd rfl (ht 6 _ rfl)
    · exact absurd rfl (ht 7 _ rfl)
    · exact absurd rfl (ht 9 _ rfl)
    · trivial
  · intro b a w hB hb1 hb2 hk hblk
    refine ⟨rfl, ?_⟩
    have ep : a.eval (.tmp 6) = .pointer (some ⟨b, 0, none⟩) := hk 6 (by decide)
    obtain ⟨kd', nn', uu', s', A', m', c', A2', m2', c2', bs', ev, hn, hbn, hndx⟩ : FVp wk.heap.size w X b (a.eval (.tmp 18)) := hk 18 (by decide)
    refine opwp_storeN rfl rfl ep ev hblk ?_
    intro w' q1 q2 q3 q4
    exact ⟨rfl, q2, q3, q4 wk hb1 hB, kd', nn', uu', s', A', m', c', A2', m2', c2', bs', q1, hn.ext q2 hbn, hndx⟩
  · intro jq oq hjq hne1 hne2
    match jq, hjq, hne1, hne2 with
    | 0, hjq, _, _ =>
      simp only [List.getElem?_toArray, List.getElem?_cons_zero, List.getElem?_cons_succ, Option.some.injEq] at hjq
      subst hjq
      intro B a w hB hb hk
      obtain ⟨b0, hb0⟩ := hB
      have e5 : a.eval (.tmp 5) = .pointer (some ⟨P5, 0, none⟩) := hk b0 hb0 5 (by decide)
      refine ⟨rfl, opwp_load6 rfl e5 (below_row h5r hb) ?_⟩
      exact ⟨Below.refl _ _, _, rfl, fun d hd b _ _ => by cases hd; rfl⟩
    | 1, hjq, _, _ =>
      simp only [List.getElem?_toArray, List.getElem?_cons_zero, List.getElem?_cons_succ, Option.some.injEq] at hjq
      subst hjq
      intro B a w hB hb hk
      obtain ⟨b0, hb0⟩ := hB
      have e1 : a.eval (.tmp 1) = .slice Aq nq cq := hk b0 hb0 1 (by decide)
      refine ⟨rfl, opwp_move rfl e1 ?_⟩
      exact ⟨Below.refl _ _, _, rfl, fun d hd b _ _ => by cases hd; rfl⟩
    | 2, hjq, _, _ =>
      simp only [List.getElem?_toArray, List.getElem?_cons_zero, List.getElem?_cons_succ, Option.some.injEq] at hjq
      subst hjq
      intro B a w hB hb hk
      obtain ⟨b0, hb0⟩ := hB
      have e15 : a.eval (.tmp 15) = .slice Aq nq cq := hk b0 hb0 15 (by decide)
      refine ⟨rfl, opwp_call (fun v w' => Below w.heap.size w w' ∧ ∀ b, B b → (b < w.heap.size ∨ w'.heap.size ≤ b) → QVp w' p b v) (exec_call [a.eval (.tmp 15)] Tryz.func13 (by kernel_rfl) rfl rfl rfl) ?_ ?_⟩
      · rw [e15]
        refine (HCP.out w (HBW.out.trans (hb.mono HBW.out.size))).mono ?_
        rintro e w' ⟨⟨v, rfl, hf⟩, h⟩
        exact ⟨_, rfl, h, fun b _ hbb => srow_qvp hf hbb⟩
      · rintro v w' ⟨h, hv⟩
        exact ⟨h, _, rfl, fun d hd b hbB hbb => by cases hd; exact hv b hbB hbb⟩
    | 3, hjq, _, _ =>
      simp only [List.getElem?_toArray, List.getElem?_cons_zero, List.getElem?_cons_succ, Option.some.injEq] at hjq
      subst hjq
      intro B a w hB hb hk
      obtain ⟨b0, hb0⟩ := hB
      have e14 : a.eval (.tmp 14) = .agg #[.int .i64 kda, .int .i64 nna, .int .u64 uua, .string sa, .slice Aa ma ca, .slice Ba na da] := hk b0 hb0 14 (by decide)
      obtain ⟨A16, c16, e16, ho16, -⟩ : QVp w p b0 (a.eval (.tmp 16)) := hk b0 hb0 16 (by decide)
      rw [e16] at ho16
      refine ⟨rfl, opwp_call (fun v w' => Below w.heap.size w w' ∧ ∀ b, B b → (b < w.heap.size ∨ w'.heap.size ≤ b) → GVp wk.heap.size w' X er b v) (exec_call [a.eval (.tmp 14), a.eval (.tmp 16)] Tryz.func22 (by kernel_rfl) rfl rfl rfl) ?_ ?_⟩
      · rw [e14, e16]
        have hg := get_any D p w _ _ _ _ _ _ A16 c16 (RRep.below hb _ _ (NRep.reads _ _ _ HN5.out)) HSD.out (Rd.of_owns ho16)
        rw [HGX.out] at hg
        refine hg.mono ?_
        rintro e w' ⟨⟨v, rfl, hf⟩, h⟩
        exact ⟨_, rfl, h, fun b _ hbb => ⟨v, rfl, fresh_fvp hf hbb hb.size⟩⟩
      · rintro v w' ⟨h, hv⟩
        exact ⟨h, _, rfl, fun d hd b hbB hbb => by cases hd; exact hv b hbB hbb⟩
    | 4, hjq, _, _ =>
      simp only [List.getElem?_toArray, List.getElem?_cons_zero, List.getElem?_cons_succ, Option.some.injEq] at hjq
      subst hjq
      intro B a w hB hb hk
      obtain ⟨b0, hb0⟩ := hB
      have h0 : ∀ b, B b → GVp wk.heap.size w X er b (a.eval (.tmp 17)) := fun b hb => hk b hb 17 (by decide)
      refine ⟨rfl, opwp_move rfl rfl ?_⟩
      exact ⟨Below.refl _ _, _, rfl, fun d hd b hbB _ => by cases hd; exact h0 b hbB⟩
    | 5, hjq, _, _ =>
      simp only [List.getElem?_toArray, List.getElem?_cons_zero, List.getElem?_cons_succ, Option.some.injEq] at hjq
      subst hjq
      intro B a w hB hb hk
      obtain ⟨b0, hb0⟩ := hB
      have h0 : ∀ b, B b → GVp wk.heap.size w X er b (a.eval (.tmp 13)) := fun b hb => hk b hb 13 (by decide)
      obtain ⟨u, eu, -⟩ := h0 b0 hb0
      refine ⟨rfl, opwp_ext u rfl eu rfl ?_⟩
      refine ⟨Below.refl _ _, _, rfl, fun d hd b hbB _ => ?_⟩
      cases hd
      obtain ⟨u', eu', hu⟩ := h0 b hbB
      rw [eu] at eu'
      cases eu'
      exact hu
    | 6, hjq, _, _ =>
      simp only [List.getElem?_toArray, List.getElem?_cons_zero, List.getElem?_cons_succ, Option.some.injEq] at hjq
      subst hjq
      intro B a w hB hb hk
      obtain ⟨b0, hb0⟩ := hB
      obtain ⟨u, eu, -⟩ : GVp wk.heap.size w X er b0 (a.eval (.tmp 13)) := hk b0 hb0 13 (by decide)
      refine ⟨rfl, opwp_ext (.int .i64 er) rfl eu rfl ?_⟩
      exact ⟨Below.refl _ _, _, rfl, fun d hd b _ _ => by cases hd; rfl⟩
    | 7, hjq, h, _ => exact absurd rfl h
    | 8, hjq, _, h => exact absurd rfl h
    | 9, hjq, _, _ =>
      simp only [List.getElem?_toArray, List.getElem?_cons_zero, List.getElem?_cons_succ, Option.some.injEq] at hjq
      subst hjq
      intro B a w hB hb hk
      obtain ⟨b0, hb0⟩ := hB
      have e19 : a.eval (.tmp 19) = .int .i64 er := hk b0 hb0 19 (by decide)
      refine ⟨rfl, opwp_assign rfl e19 ?_⟩
      exact ⟨Below.refl _ _, _, rfl, fun d hd b _ _ => by cases hd; rfl⟩
    | kq + 10, hjq, _, _ => cases hjq
  rintro P6 f wl hb hp1 hp2 hp hblk
  have e6 : f 6 = .pointer (some ⟨P6, 0, none⟩) := hp 6 (by decide)
  have e7 : f 7 = .int .i64 er := hp 7 (by decide)
  simp only [puts, List.foldl, Act.put, List.setIfInBounds_toArray, List.set_cons_zero, List.set_cons_succ, e6, e7]
  generalize f 14 = v14
  generalize f 15 = v15
  generalize f 16 = v16
  generalize f 17 = v17
  generalize f 13 = v13
  generalize f 18 = v18
  generalize f 19 = v19
  have HK := Lib.hid hb
  have HLk := Lib.hid HL.out
  have HT5k := Lib.hid HT5.out
  have H2k := Lib.hid H2.out
  replace HL := Lib.hid (HL.out.next hb)
  replace H2 := Lib.hid (below_row H2.out hb)
  replace HT5 := Lib.hid (HT5.out.below hb)
  obtain ⟨kdg, nng, uug, sg, Ag, mg, cg, Bg, ng, dg, bsg, h6, hNg, hndg, hgeg⟩ := hblk
  have HP6 := Lib.hid h6
  have HNX := Lib.hid hNg
  have HGE := Lib.hid (And.intro hndg hgeg)
  clear hb hp1 hp2 hp h6 hNg hndg hgeg e6 e7 h5r HN5 HBW
  go_upto_region 3 with fail
  obtain ⟨kdb, nnb, uub, sb, Ab, mb, cb, Bb, nb, db, bsb, h5r, hNb⟩ := HT5.out
  obtain ⟨z0b, z1b, z2b, z3b, z4b, z5b⟩ := cells6 h5r
  have HN5 := Lib.hid hNb
  have HBW := Lib.hid HL.out.b
  clear hNb z0b z1b z2b z3b z4b z5b
  refine wp_region_each1P (n := 47) (ia := 7) (is_ := 8) [21, 22, 23, 24, 20, 25, 26, 8, 9] (pg3 wl.heap.size P5 kdb nnb uub sb Ab mb cb Bb nb db Aq nq cq p X er) (blkF wl.heap.size X) (by kernel_rfl) (by kernel_rfl) rfl (by kernel_rfl) (pg3_st wl.heap.size P5 kdb nnb uub sb Ab mb cb Bb nb db Aq nq cq p X er) (blkF_st wl.heap.size X) ?_ rfl rfl rfl (fun a w K hK => opwp_allocN rfl a w K hK) (fun _ _ => rfl) (fun w => heap_alloc_new _ _) rfl rfl ?_ (by kernel_rfl) ?_ ?_
  · intro b hb t ht
    unfold pg3
    split
    · rfl
    · rfl
    · exact absurd rfl (ht 0 _ rfl)
    · exact absurd rfl (ht 1 _ rfl)
    · exact absurd rfl (ht 2 _ rfl)
    · exact absurd rfl (ht 3 _ rfl)
    · exact absurd rfl (ht 4 _ rfl)
    · exact absurd rfl (ht 5 _ rfl)
    · exact absurd rfl (ht 6 _ rfl)
    · exact absurd rfl (ht 7 _ rfl)
    · exact absurd rfl (ht 9 _ rfl)
    · trivial
  · intro b a w hB hb1 hb2 hk hblk
    refine ⟨rfl, ?_⟩
    have ep : a.eval (.tmp 8) = .pointer (some ⟨b, 0, none⟩) := hk 8 (by decide)
    obtain ⟨kd', nn', uu', s', A', m', c', A2', m2', c2', bs', ev, hn, hbn, hndx⟩ : FVp wl.heap.size w X b (a.eval (.tmp 25)) := hk 25 (by decide)
    refine opwp_storeN rfl rfl ep ev hblk ?_
    intro w' q1 q2 q3 q4
    exact ⟨rfl, q2, q3, q4 wl hb1 hB, kd', nn', uu', s', A', m', c', A2', m2', c2', bs', q1, hn.ext q2 hbn, hndx⟩
  · intro jq oq hjq hne1 hne2
    match jq, hjq, hne1, hne2 with
    | 0, hjq, _, _ =>
      simp only [List.getElem?_toArray, List.getElem?_cons_zero, List.getElem?_cons_succ, Option.some.injEq] at hjq
      subst hjq
      intro B a w hB hb hk
      obtain ⟨b0, hb0⟩ := hB
      have e5 : a.eval (.tmp 5) = .pointer (some ⟨P5, 0, none⟩) := hk b0 hb0 5 (by decide)
      refine ⟨rfl, opwp_load6 rfl e5 (below_row h5r hb) ?_⟩
      exact ⟨Below.refl _ _, _, rfl, fun d hd b _ _ => by cases hd; rfl⟩
    | 1, hjq, _, _ =>
      simp only [List.getElem?_toArray, List.getElem?_cons_zero, List.getElem?_cons_succ, Option.some.injEq] at hjq
      subst hjq
      intro B a w hB hb hk
      obtain ⟨b0, hb0⟩ := hB
      have e1 : a.eval (.tmp 1) = .slice Aq nq cq := hk b0 hb0 1 (by decide)
      refine ⟨rfl, opwp_move rfl e1 ?_⟩
      exact ⟨Below.refl _ _, _, rfl, fun d hd b _ _ => by cases hd; rfl⟩
    | 2, hjq, _, _ =>
      simp only [List.getElem?_toArray, List.getElem?_cons_zero, List.getElem?_cons_succ, Option.some.injEq] at hjq
      subst hjq
      intro B a w hB hb hk
      obtain ⟨b0, hb0⟩ := hB
      have e22 : a.eval (.tmp 22) = .slice Aq nq cq := hk b0 hb0 22 (by decide)
      refine ⟨rfl, opwp_call (fun v w' => Below w.heap.size w w' ∧ ∀ b, B b → (b < w.heap.size ∨ w'.heap.size ≤ b) → QVp w' p b v) (exec_call [a.eval (.tmp 22)] Tryz.func13 (by kernel_rfl) rfl rfl rfl) ?_ ?_⟩
      · rw [e22]
        refine (HCP.out w (HBW.out.trans (hb.mono HBW.out.size))).mono ?_
        rintro e w' ⟨⟨v, rfl, hf⟩, h⟩
        exact ⟨_, rfl, h, fun b _ hbb => srow_qvp hf hbb⟩
      · rintro v w' ⟨h, hv⟩
        exact ⟨h, _, rfl, fun d hd b hbB hbb => by cases hd; exact hv b hbB hbb⟩
    | 3, hjq, _, _ =>
      simp only [List.getElem?_toArray, List.getElem?_cons_zero, List.getElem?_cons_succ, Option.some.injEq] at hjq
      subst hjq
      intro B a w hB hb hk
      obtain ⟨b0, hb0⟩ := hB
      have e21 : a.eval (.tmp 21) = .agg #[.int .i64 kdb, .int .i64 nnb, .int .u64 uub, .string sb, .slice Ab mb cb, .slice Bb nb db] := hk b0 hb0 21 (by decide)
      obtain ⟨A16, c16, e16, ho16, -⟩ : QVp w p b0 (a.eval (.tmp 23)) := hk b0 hb0 23 (by decide)
      rw [e16] at ho16
      refine ⟨rfl, opwp_call (fun v w' => Below w.heap.size w w' ∧ ∀ b, B b → (b < w.heap.size ∨ w'.heap.size ≤ b) → GVp wl.heap.size w' X er b v) (exec_call [a.eval (.tmp 21), a.eval (.tmp 23)] Tryz.func23 (by kernel_rfl) rfl rfl rfl) ?_ ?_⟩
      · rw [e21, e16]
        have hg := rget_any D p w _ _ _ _ _ _ A16 c16 (RRep.below hb _ _ (NRep.reads _ _ _ HN5.out)) HSD.out (Rd.of_owns ho16)
        rw [HGX.out] at hg
        refine hg.mono ?_
        rintro e w' ⟨⟨v, rfl, hf⟩, h⟩
        exact ⟨_, rfl, h, fun b _ hbb => ⟨v, rfl, fresh_fvp hf hbb hb.size⟩⟩
      · rintro v w' ⟨h, hv⟩
        exact ⟨h, _, rfl, fun d hd b hbB hbb => by cases hd; exact hv b hbB hbb⟩
    | 4, hjq, _, _ =>
      simp only [List.getElem?_toArray, List.getElem?_cons_zero, List.getElem?_cons_succ, Option.some.injEq] at hjq
      subst hjq
      intro B a w hB hb hk
      obtain ⟨b0, hb0⟩ := hB
      have h0 : ∀ b, B b → GVp wl.heap.size w X er b (a.eval (.tmp 24)) := fun b hb => hk b hb 24 (by decide)
      refine ⟨rfl, opwp_move rfl rfl ?_⟩
      exact ⟨Below.refl _ _, _, rfl, fun d hd b hbB _ => by cases hd; exact h0 b hbB⟩
    | 5, hjq, _, _ =>
      simp only [List.getElem?_toArray, List.getElem?_cons_zero, List.getElem?_cons_succ, Option.some.injEq] at hjq
      subst hjq
      intro B a w hB hb hk
      obtain ⟨b0, hb0⟩ := hB
      have h0 : ∀ b, B b → GVp wl.heap.size w X er b (a.eval (.tmp 20)) := fun b hb => hk b hb 20 (by decide)
      obtain ⟨u, eu, -⟩ := h0 b0 hb0
      refine ⟨rfl, opwp_ext u rfl eu rfl ?_⟩
      refine ⟨Below.refl _ _, _, rfl, fun d hd b hbB _ => ?_⟩
      cases hd
      obtain ⟨u', eu', hu⟩ := h0 b hbB
      rw [eu] at eu'
      cases eu'
      exact hu
    | 6, hjq, _, _ =>
      simp only [List.getElem?_toArray, List.getElem?_cons_zero, List.getElem?_cons_succ, Option.some.injEq] at hjq
      subst hjq
      intro B a w hB hb hk
      obtain ⟨b0, hb0⟩ := hB
      obtain ⟨u, eu, -⟩ : GVp wl.heap.size w X er b0 (a.eval (.tmp 20)) := hk b0 hb0 20 (by decide)
      refine ⟨rfl, opwp_ext (.int .i64 er) rfl eu rfl ?_⟩
      exact ⟨Below.refl _ _, _, rfl, fun d hd b _ _ => by cases hd; rfl⟩
    | 7, hjq, h, _ => exact absurd rfl h
    | 8, hjq, _, h => exact absurd rfl h
    | 9, hjq, _, _ =>
      simp only [List.getElem?_toArray, List.getElem?_cons_zero, List.getElem?_cons_succ, Option.some.injEq] at hjq
      subst hjq
      intro B a w hB hb hk
      obtain ⟨b0, hb0⟩ := hB
      have e26 : a.eval (.tmp 26) = .int .i64 er := hk b0 hb0 26 (by decide)
      refine ⟨rfl, opwp_assign rfl e26 ?_⟩
      exact ⟨Below.refl _ _, _, rfl, fun d hd b _ _ => by cases hd; rfl⟩
    | kq + 10, hjq, _, _ => cases hjq
  rintro P8 f w4 hb hp1 hp2 hp hblk
  have e8 : f 8 = .pointer (some ⟨P8, 0, none⟩) := hp 8 (by decide)
  have e9 : f 9 = .int .i64 er := hp 9 (by decide)
  simp only [puts, List.foldl, Act.put, List.setIfInBounds_toArray, List.set_cons_zero, List.set_cons_succ, e8, e9]
  generalize f 21 = v21
  generalize f 22 = v22
  generalize f 23 = v23
  generalize f 24 = v24
  generalize f 20 = v20
  generalize f 25 = v25
  generalize f 26 = v26
  obtain ⟨kdh, nnh, uuh, sh, Ah, mh, ch, Bh, nh, dh, bsh, h8, hNh, -, -⟩ := hblk
  have HKK := Lib.hid (HK.out.trans (hb.mono HK.out.size))
  have h6 := below_row HP6.out hb
  have hNg := HNX.out.below hb
  obtain ⟨z0, z1, z2, z3, z4, z5⟩ := cells6 h6
  obtain ⟨y0, y1, y2, y3, y4, y5⟩ := cells6 h8
  have heq : (er == er) = true := beq_self_eq_true _
  have HEQ := Lib.hid (eqnodeR_true X w4 w4 _ _ _ _ _ _ _ _ _ _ _ _ (Below.refl _ _) (NRep.reads _ _ _ hNg) (NRep.reads _ _ _ hNh))
  have HNG := Lib.hid hNg
  have HP6b := Lib.hid h6
  clear hb hp1 hp2 hp e8 e9 h5r HN5 HBW HP6 HNX hNg hNh h8 h6 HL HT5 H2
  go_wp2_with fail
  refine HEQ.out.mono ?_
  rintro e w5 ⟨rfl, hb⟩
  have h6 := below_row HP6b.out hb
  obtain ⟨q0, q1, q2, q3, q4, q5⟩ := cells6 h6
  have HSP := Lib.hid (spoil_any X w5 _ _ _ _ _ _ bsg (HNG.out.below hb) HGE.out.1)
  have HK5 := Lib.hid (HKK.out.trans (hb.mono HKK.out.size))
  clear z0 z1 z2 z3 z4 z5 y0 y1 y2 y3 y4 y5 hb HEQ HP6b HNG HKK h6
  go_wp2_with fail
  refine HSP.out.mono ?_
  rintro e ws ⟨rfl, ht⟩
  have hKs : Below wk.heap.size wk ws := HK5.out.trans ⟨ht.os, ht.tape, ht.output, ht.size, fun k hk => ht.block k (Nat.lt_of_lt_of_le hk HK5.out.size) fun hm => by have := HGE.out.2 k hm; omega⟩
  have HL := Lib.hid (HLk.out.next hKs)
  have HT5 := Lib.hid (HT5k.out.below hKs)
  have h2r := below_row H2k.out hKs
  have HBW := Lib.hid HL.out.b
  have HTS := Lib.hid HL.out.t
  clear ht hKs HSP HK5 q0 q1 q2 q3 q4 q5 HLk HT5k H2k
  obtain ⟨kda, nna, uua, sa, Aa, ma, ca, Ba, na, da, bsa, ha, hNa⟩ := HT5.out
  obtain ⟨z0a, z1a, z2a, z3a, z4a, z5a⟩ := cells6 ha
  have h5r := ha
  have HN5 := Lib.hid hNa
  clear hNa ha z0a z1a z2a z3a z4a z5a
  go_upto_region 6 with fail
  refine wp_region_eachP (n := 47) [37, 38, 39, 40, 41, 42, 43, 44, 45, 46, 4] (pg6 P2 P5 kdx nnx uux sx Ax mx cx Bx nx dx kda nna uua sa Aa ma ca Ba na da D) (by kernel_rfl) (by kernel_rfl) rfl (by kernel_rfl) (pg6_st P2 P5 kdx nnx uux sx Ax mx cx Bx nx dx kda nna uua sa Aa ma ca Ba na da D) ?_ ?_ ?_
  · intro b hb t ht
    unfold pg6
    split
    · rfl
    · rfl
    · rfl
    · exact absurd rfl (ht 0 _ rfl)
    · exact absurd rfl (ht 1 _ rfl)
    · exact absurd rfl (ht 2 _ rfl)
    · exact absurd rfl (ht 3 _ rfl)
    · exact absurd rfl (ht 4 _ rfl)
    · exact absurd rfl (ht 5 _ rfl)
    · exact absurd rfl (ht 6 _ rfl)
    · exact absurd rfl (ht 7 _ rfl)
    · exact absurd rfl (ht 8 _ rfl)
    · exact absurd rfl (ht 9 _ rfl)
    · exact absurd rfl (ht 10 _ rfl)
    · trivial
  · intro jq oq hjq
    match jq, hjq with
    | 0, hjq =>
      simp only [List.getElem?_toArray, List.getElem?_cons_zero, List.getElem?_cons_succ, Option.some.injEq] at hjq
      subst hjq
      intro B a w hB hb hk
      obtain ⟨b0, hb0⟩ := hB
      have e10 : a.eval (.tmp 10) = .bool true := hk b0 hb0 10 (by decide)
      refine ⟨rfl, opwp_move rfl e10 ?_⟩
      exact ⟨Below.refl _ _, _, rfl, fun d hd b _ _ => by cases hd; rfl⟩
    | 1, hjq =>
      simp only [List.getElem?_toArray, List.getElem?_cons_zero, List.getElem?_cons_succ, Option.some.injEq] at hjq
      subst hjq
      intro B a w hB hb hk
      obtain ⟨b0, hb0⟩ := hB
      have e37 : a.eval (.tmp 37) = .bool true := hk b0 hb0 37 (by decide)
      refine ⟨rfl, opwp_move rfl e37 ?_⟩
      exact ⟨Below.refl _ _, _, rfl, fun d hd b _ _ => by cases hd; rfl⟩
    | 2, hjq =>
      simp only [List.getElem?_toArray, List.getElem?_cons_zero, List.getElem?_cons_succ, Option.some.injEq] at hjq
      subst hjq
      intro B a w hB hb hk
      obtain ⟨b0, hb0⟩ := hB
      have e5 : a.eval (.tmp 5) = .pointer (some ⟨P5, 0, none⟩) := hk b0 hb0 5 (by decide)
      have eg : a.eval (.tmp 38) = .bool true := hk b0 hb0 38 (by decide)
      refine ⟨wanted_of rfl rfl eg, opwp_load6 rfl e5 (below_row h5r hb) ?_⟩
      exact ⟨Below.refl _ _, _, rfl, fun d hd b _ _ => by cases hd; rfl⟩
    | 3, hjq =>
      simp only [List.getElem?_toArray, List.getElem?_cons_zero, List.getElem?_cons_succ, Option.some.injEq] at hjq
      subst hjq
      intro B a w hB hb hk
      obtain ⟨b0, hb0⟩ := hB
      have e2 : a.eval (.tmp 2) = .pointer (some ⟨P2, 0, none⟩) := hk b0 hb0 2 (by decide)
      have eg : a.eval (.tmp 38) = .bool true := hk b0 hb0 38 (by decide)
      refine ⟨wanted_of rfl rfl eg, opwp_load6 rfl e2 (below_row h2r hb) ?_⟩
      exact ⟨Below.refl _ _, _, rfl, fun d hd b _ _ => by cases hd; rfl⟩
    | 4, hjq =>
      simp only [List.getElem?_toArray, List.getElem?_cons_zero, List.getElem?_cons_succ, Option.some.injEq] at hjq
      subst hjq
      intro B a w hB hb hk
      obtain ⟨b0, hb0⟩ := hB
      have e40 : a.eval (.tmp 40) = .agg #[.int .i64 kdx, .int .i64 nnx, .int .u64 uux, .string sx, .slice Ax mx cx, .slice Bx nx dx] := hk b0 hb0 40 (by decide)
      have eg : a.eval (.tmp 38) = .bool true := hk b0 hb0 38 (by decide)
      refine ⟨wanted_of rfl rfl eg, opwp_call (fun v w' => Below w.heap.size w w' ∧ ∀ b, B b → (b < w.heap.size ∨ w'.heap.size ≤ b) → NVp w' D b v) (exec_call [a.eval (.tmp 40)] Tryz.func21 (by kernel_rfl) rfl rfl rfl) ?_ ?_⟩
      · rw [e40]
        refine (HF.out w (HBW.out.trans (hb.mono HBW.out.size))).mono ?_
        rintro e w' ⟨⟨v, rfl, hf⟩, h⟩
        exact ⟨_, rfl, h, fun b _ hbb => fresh_nvp hf hbb⟩
      · rintro v w' ⟨h, hv⟩
        exact ⟨h, _, rfl, fun d hd b hbB hbb => by cases hd; exact hv b hbB hbb⟩
    | 5, hjq =>
      simp only [List.getElem?_toArray, List.getElem?_cons_zero, List.getElem?_cons_succ, Option.some.injEq] at hjq
      subst hjq
      intro B a w hB hb hk
      obtain ⟨b0, hb0⟩ := hB
      have e39 : a.eval (.tmp 39) = .agg #[.int .i64 kda, .int .i64 nna, .int .u64 uua, .string sa, .slice Aa ma ca, .slice Ba na da] := hk b0 hb0 39 (by decide)
      obtain ⟨kd', nn', uu', s', A', m', c', A2', m2', c2', bs', e41, hn41, -⟩ : NVp w D b0 (a.eval (.tmp 41)) := hk b0 hb0 41 (by decide)
      have eg : a.eval (.tmp 38) = .bool true := hk b0 hb0 38 (by decide)
      refine ⟨wanted_of rfl rfl eg, opwp_call (fun v w' => v = .bool true ∧ Below w.heap.size w w') (exec_call [a.eval (.tmp 39), a.eval (.tmp 41)] Tryz.func24 (by kernel_rfl) rfl rfl rfl) ?_ ?_⟩
      · rw [e39, e41]
        refine (eqnodeR_true D w w _ _ _ _ _ _ _ _ _ _ _ _ (Below.refl _ _) (RRep.below hb _ _ (NRep.reads _ _ _ HN5.out)) (NRep.reads _ _ _ hn41)).mono ?_
        rintro e w' ⟨rfl, h⟩
        exact ⟨_, rfl, rfl, h⟩
      · rintro v w' ⟨rfl, h⟩
        exact ⟨h, _, rfl, fun d hd b _ _ => by cases hd; rfl⟩
    | 6, hjq =>
      simp only [List.getElem?_toArray, List.getElem?_cons_zero, List.getElem?_cons_succ, Option.some.injEq] at hjq
      subst hjq
      intro B a w hB hb hk
      obtain ⟨b0, hb0⟩ := hB
      have e38 : a.eval (.tmp 38) = .bool true := hk b0 hb0 38 (by decide)
      have e42 : a.eval (.tmp 42) = .bool true := hk b0 hb0 42 (by decide)
      refine ⟨rfl, opwp_pickT rfl e38 e42 ?_⟩
      exact ⟨Below.refl _ _, _, rfl, fun d hd b _ _ => by cases hd; rfl⟩
    | 7, hjq =>
      simp only [List.getElem?_toArray, List.getElem?_cons_zero, List.getElem?_cons_succ, Option.some.injEq] at hjq
      subst hjq
      intro B a w hB hb hk
      obtain ⟨b0, hb0⟩ := hB
      have e43 : a.eval (.tmp 43) = .bool true := hk b0 hb0 43 (by decide)
      refine ⟨rfl, opwp_move rfl e43 ?_⟩
      exact ⟨Below.refl _ _, _, rfl, fun d hd b _ _ => by cases hd; rfl⟩
    | 8, hjq =>
      simp only [List.getElem?_toArray, List.getElem?_cons_zero, List.getElem?_cons_succ, Option.some.injEq] at hjq
      subst hjq
      intro B a w hB hb hk
      obtain ⟨b0, hb0⟩ := hB
      have eg : a.eval (.tmp 44) = .bool true := hk b0 hb0 44 (by decide)
      refine ⟨wanted_of rfl rfl eg, opwp_call (fun v w' => v = .bool true ∧ Below w.heap.size w w') (exec_call [] Tryz.func17 (by kernel_rfl) rfl rfl rfl) ?_ ?_⟩
      · refine (works_any w w ⟨Below.refl _ _, HTS.out.below hb⟩).mono ?_
        rintro e w' ⟨rfl, h⟩
        exact ⟨_, rfl, rfl, h.b⟩
      · rintro v w' ⟨rfl, h⟩
        exact ⟨h, _, rfl, fun d hd b _ _ => by cases hd; rfl⟩
    | 9, hjq =>
      simp only [List.getElem?_toArray, List.getElem?_cons_zero, List.getElem?_cons_succ, Option.some.injEq] at hjq
      subst hjq
      intro B a w hB hb hk
      obtain ⟨b0, hb0⟩ := hB
      have e44 : a.eval (.tmp 44) = .bool true := hk b0 hb0 44 (by decide)
      have e45 : a.eval (.tmp 45) = .bool true := hk b0 hb0 45 (by decide)
      refine ⟨rfl, opwp_pickT rfl e44 e45 ?_⟩
      exact ⟨Below.refl _ _, _, rfl, fun d hd b _ _ => by cases hd; rfl⟩
    | 10, hjq =>
      simp only [List.getElem?_toArray, List.getElem?_cons_zero, List.getElem?_cons_succ, Option.some.injEq] at hjq
      subst hjq
      intro B a w hB hb hk
      obtain ⟨b0, hb0⟩ := hB
      have e46 : a.eval (.tmp 46) = .bool true := hk b0 hb0 46 (by decide)
      refine ⟨rfl, opwp_assign rfl e46 ?_⟩
      exact ⟨Below.refl _ _, _, rfl, fun d hd b _ _ => by cases hd; rfl⟩
    | kq + 11, hjq => cases hjq
  rintro f w7 hb hp
  have e4 : f 4 = .bool true := hp _ (Nat.le_refl _) 4 (by decide)
  simp only [puts, List.foldl, Act.put, List.setIfInBounds_toArray, List.set_cons_zero, List.set_cons_succ, e4]
  generalize f 37 = v37
  generalize f 38 = v38
  generalize f 39 = v39
  generalize f 40 = v40
  generalize f 41 = v41
  generalize f 42 = v42
  generalize f 43 = v43
  generalize f 44 = v44
  generalize f 45 = v45
  generalize f 46 = v46
  replace HL := Lib.hid (HL.out.next hb)
  clear hp e4 hb h2r h5r
  go_wp2_with fail
  go_ret
  exact ⟨rfl, by rw [HBB.out]; exact HL.out.b⟩
end
end Go.Proofs.YtlblddeemkefkaaGreatDoor
