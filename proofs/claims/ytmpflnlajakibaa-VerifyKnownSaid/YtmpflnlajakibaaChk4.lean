/- The reference's check: key. -/
import Derived.Test.YtmpflnlajakibaaB1
import Derived.Test.YtmpflnlajakibaaApp
namespace Go.Proofs.Ytmpflnlajakibaa
set_option linter.unusedVariables false
set_option linter.unusedSimpArgs false
set_option linter.unusedSectionVars false
open Go.RowKit
/-- The end of key. -/
def RKP (K : Nat → Prop) (w : World) (lk b o n cap : Nat) (D : List UInt8) (dp bud : Int) (r : VR (List UInt8)) (en : Ending) (w' : World) : Prop := match r with
  | .ok (S', s) => en = .returned (strV s) ∧ ROk K w' lk b o n cap D dp bud S' ∧ RKept K w w'
  | .error (s, a, e) => (∃ l, en = .returned (strV l) ∧ l.length ≤ 1073741824) ∧ RNo K w' lk b o n cap D dp s a e ∧ RKept K w w'
theorem owns_form {w : World} {B : Nat} {e : TypeId} {sz n : Nat} {v : Value} {xs : List Value} (h : w.ownsRow B e sz v n xs) : ∃ A m c, v = .slice A m c := by
  rcases h.2 with ⟨rfl, -⟩ | ⟨g, c, cur, rfl, -⟩
  · exact ⟨_, _, _, rfl⟩
  · exact ⟨_, _, _, rfl⟩
theorem i64info : (Try.prog.info? 3).map (fun i => (i.zero, i.size, i.bytes)) = some (some (.int .i64 0), 1, 8) := by kernel_rfl
theorem intRow_at (C : List Int) (j : Nat) (hj : j < C.length) : (intRow C)[j]? = some (.int .i64 C[j]) := by
  rw [intRow, List.getElem?_map, List.getElem?_eq_getElem hj]; rfl
theorem one_cell {w : World} {g : Nat} {u : Value} {e : TypeId} {fr : Nat × Nat} (h : w.heap[g]? = some (.cells #[u] e fr)) : ∀ j x, [u][j]? = some x → w.cell? ((⟨g, 0, none⟩ : Addr).add j) = some x := by
  intro j x hj
  have := cell_of_row w g (0 + j) #[u] e fr h
  rw [show ((⟨g, 0, none⟩ : Addr).add j) = ⟨g, 0 + j, none⟩ by simp only [Addr.add]; split <;> simp_all, this, Nat.zero_add, ← Array.getElem?_toList]
  exact hj
section
variable {K : Nat → Prop} {w w' : World} {lk b o n cap : Nat} {D : List UInt8} {dp bud : Int} {S : VS} {s at_ e : Int}
theorem rkey_still {s a' e : Int} (h : RNo K w lk b o n cap D dp s a' e) (p q t k a : Int) :
    Calls Try.prog 57 #[.pointer (some ⟨lk, 0, none⟩), .agg #[.int .i64 p, .int .i64 q, .int .i64 t, .int .i64 k], .int .i64 a] w fun en w' =>
      (∃ l, en = .returned (strV l) ∧ l.length ≤ 1073741824) ∧ RNo K w' lk b o n cap D dp s a' e ∧ RKept K w w' := by
  have c7 := h.c7
  have hK := h.hK
  have hlk := h.lkt
  have he' : (e != 0) = true := by simpa using h.1
  go_enter Try.func57, Try.ntmps57
  go_wp2
  go_returns
  exact ⟨⟨[], rfl, by simp⟩, h.keep (by (repeat' first | (with_reducible first | exact zb0 _ _ | assumption | refine zb1 ?_ ?_ _ | refine zb2 ?_ | refine zb3 ?_ _ | refine zb4 ?_ ?_ _ | refine zb5 (by assumption) ?_ ?_ | exact zb6 _) | omega | (simp only [zsz]; omega) | (simp; omega))), by (repeat' first | (with_reducible first | exact RKept.refl _ _ | assumption | refine RKept.alloc hK ?_ ?_ _ | refine RKept.drew ?_ | refine RKept.drewN hK ?_ _ | refine RKept.setCell hK ?_ ?_ _ | refine rkept_same (by assumption) ?_ | refine rkept_call (by assumption) ?_ | refine rkept_below hK (by assumption) ?_ ?_ | exact zb6 _) | omega | (simp only [zsz]; omega) | (simp; omega))⟩
set_option maxHeartbeats 4000000 in
theorem rkey_a (h : ROk K w lk b o n cap D dp bud S) (p q k a : Int) (he : findE D p q 4 k true ≠ 0) :
    Calls Try.prog 57 #[.pointer (some ⟨lk, 0, none⟩), .agg #[.int .i64 p, .int .i64 q, .int .i64 4, .int .i64 k], .int .i64 a] w (RKP K w lk b o n cap D dp bud (.error (S.s, a, findE D p q 4 k true))) := by
  have c7 := h.c7
  have c0 := h.c0
  have hK := h.hK
  have hlk := h.lkt
  have hD := h.doc
  have hbw := hD.lt
  have he' : (findE D p q 4 k true != 0) = true := by simpa using he
  go_enter Try.func57, Try.ntmps57
  go_wp2
  go_region_with ((go_at_call 92; refine (rkey_any _ _ _ _ D p q k _ (hD.below (by (repeat' first | (with_reducible first | exact zb0 _ _ | assumption | refine zb1 ?_ ?_ _ | refine zb2 ?_ | refine zb3 ?_ _ | refine zb4 ?_ ?_ _ | refine zb5 (by assumption) ?_ ?_ | exact zb6 _) | omega | (simp only [zsz]; omega) | (simp; omega))))).mono ?_; rintro e w1 ⟨rfl, hb1⟩; obtain ⟨hc1, hf1, hl1⟩ := bcell hb1; (try simp only [zdz] at hc1 hf1 hl1); have hz1 := hb1.size; (try simp only [zsz] at hz1); (try have g0 : w.heap.size < w1.heap.size := by omega); (try have g1 : w.heap.size + 1 < w1.heap.size := by omega); (try have gl : lk < w1.heap.size := by omega)))
  all_goals go_wp2_with (go_at_call 52; refine (rtell_no (h.keep (by (repeat' first | (with_reducible first | exact zb0 _ _ | assumption | refine zb1 ?_ ?_ _ | refine zb2 ?_ | refine zb3 ?_ _ | refine zb4 ?_ ?_ _ | refine zb5 (by assumption) ?_ ?_ | exact zb6 _) | omega | (simp only [zsz]; omega) | (simp; omega)))) a _ he).mono ?_; rintro en w2 ⟨rfl, hn2, hk2⟩)
  all_goals go_returns
  all_goals exact ⟨⟨[], rfl, by simp⟩, hn2, by (repeat' first | (with_reducible first | exact RKept.refl _ _ | assumption | refine RKept.alloc hK ?_ ?_ _ | refine RKept.drew ?_ | refine RKept.drewN hK ?_ _ | refine RKept.setCell hK ?_ ?_ _ | refine rkept_same (by assumption) ?_ | refine rkept_call (by assumption) ?_ | refine rkept_below hK (by assumption) ?_ ?_ | exact zb6 _) | omega | (simp only [zsz]; omega) | (simp; omega))⟩
def HypKey (b o n cap : Nat) (D : List UInt8) (p q k : Int) (s : List UInt8) : Prop := ∀ W, Doc W b o n cap D → Calls Try.prog 92 #[.slice (some ⟨b, o, none⟩) n cap, .agg #[.int .i64 p, .int .i64 q, .int .i64 4, .int .i64 k]] W fun e w' =>
      e = .returned (.tuple #[.string ⟨s.toArray⟩, .int .i64 0]) ∧ Below W.heap.size W w'
set_option maxHeartbeats 8000000 in
set_option maxRecDepth 100000 in
theorem rkey_b (h : ROk K w lk b o n cap D dp bud S) (p q k a : Int) (he : findE D p q 4 k true = 0) (r : VR (List UInt8)) (hr : keyM D bud p q k a S = r) :
    Calls Try.prog 57 #[.pointer (some ⟨lk, 0, none⟩), .agg #[.int .i64 p, .int .i64 q, .int .i64 4, .int .i64 k], .int .i64 a] w (RKP K w lk b o n cap D dp bud r) := by
  have c7 := h.c7
  have c0 := h.c0
  have hK := h.hK
  have hlk := h.lkt
  have hD := h.doc
  have hbw := hD.lt
  have hl0 : (findS D p q 4 k true).length ≤ 1073741824 := Nat.le_trans (findS_le D p q 4 k true) (by rw [hD.len]; exact hD.sm)
  have HK : HypKey b o n cap D p q k (findS D p q 4 k true) := fun W DW => by
    have hx := rkey_any _ _ _ _ D p q k W DW
    rw [he] at hx; exact hx
  have hr' : r = if a ∈ S.C then .ok (S, findS D p q 4 k true) else if S.s + ((findS D p q 4 k true).length + 1) ≤ bud then .ok ({ s := S.s + ((findS D p q 4 k true).length + 1), L := S.L, C := a :: S.C }, findS D p q 4 k true) else .error (S.s, p, 290) := by
    rw [← hr]; unfold keyM stepM; simp only [he, ne_eq, not_true_eq_false, if_false]
    split
    · rfl
    · by_cases hx : S.s + ((findS D p q 4 k true).length + 1) ≤ bud
      · rw [if_pos hx, if_pos hx]
      · rw [if_neg hx, if_neg hx]
  clear hr he
  generalize findS D p q 4 k true = s at *
  obtain ⟨i0, hi, iz0, iz1, iz2⟩ := info_parts i64info
  have Hi := Lib.hid hi
  have HR := Lib.hid hr'
  clear hr' hi
  obtain ⟨at_, lv, cv, hst⟩ := h.st
  have hs0 := h.s0
  have hs1 := h.s1
  have hbd := h.bd
  have hcs := h.cs
  go_enter Try.func57, Try.ntmps57
  go_upto_region 3 with fail
  refine wp_named (fun wn => Below w.heap.size w wn ∧ wn.cell? ⟨w.heap.size, 0, none⟩ = some (.int .i64 p) ∧ wn.cell? ⟨w.heap.size, 1, none⟩ = some (.int .i64 q) ∧ wn.cell? ⟨w.heap.size, 2, none⟩ = some (.int .i64 4) ∧ wn.cell? ⟨w.heap.size, 3, none⟩ = some (.int .i64 k) ∧ w.heap.size < wn.heap.size) ⟨by (repeat' first | (with_reducible first | exact zb0 _ _ | assumption | refine zb1 ?_ ?_ _ | refine zb2 ?_ | refine zb3 ?_ _ | refine zb4 ?_ ?_ _ | refine zb5 (by assumption) ?_ ?_ | exact zb6 _) | omega | (simp only [zsz]; omega) | (simp; omega)), by go_simp, by go_simp, by go_simp, by go_simp, by (first | omega | simp)⟩ ?_
  rintro wn ⟨hbn, z0, z1, z2, z3, hX⟩
  have hstn := hst.keep hbn
  have z4 : wn.cell? ⟨lk, 0, none⟩ = some (.slice (some ⟨b, o, none⟩) n cap) := cell_of_row _ _ _ _ _ _ hstn.row
  have hDn := hstn.doc
  have gln := hstn.lkt
  go_region_held3 (fun w' => w'.cell? ⟨w.heap.size, 0, none⟩ = some (.int .i64 p) ∧ w'.cell? ⟨w.heap.size, 1, none⟩ = some (.int .i64 q) ∧ w'.cell? ⟨w.heap.size, 2, none⟩ = some (.int .i64 4) ∧ w'.cell? ⟨w.heap.size, 3, none⟩ = some (.int .i64 k) ∧ w'.cell? ⟨lk, 0, none⟩ = some (.slice (some ⟨b, o, none⟩) n cap)) (first | (with_reducible exact ⟨z0, z1, z2, z3, z4⟩) | (refine ⟨?_, ?_, ?_, ?_, ?_⟩ <;> go_keep)) (((go_at_call 92; refine (HK _ (hDn.below (by (repeat' first | (with_reducible first | exact zb0 _ _ | assumption | refine zb1 ?_ ?_ _ | refine zb2 ?_ | refine zb3 ?_ _ | refine zb4 ?_ ?_ _ | refine zb5 (by assumption) ?_ ?_ | exact zb6 _) | omega | (simp only [zsz]; omega) | (simp; omega))))).mono ?_; rintro e w1 ⟨rfl, hb1⟩; obtain ⟨hc1, hf1, hl1⟩ := bcell hb1; (try simp only [zdz] at hc1 hf1 hl1); have hz1 := hb1.size; (try simp only [zsz] at hz1); (try have g0 : w.heap.size < w1.heap.size := by omega); (try have g1 : w.heap.size + 1 < w1.heap.size := by omega); (try have gl : lk < w1.heap.size := by omega))))
  go_upto_region 7 with fail
  refine wp_named (fun wx => RSt K wx lk b o n cap D dp bud S.s at_ 0 lv cv S.L.reverse S.C.reverse ∧ RKept K w wx ∧ wx.cell? ⟨w.heap.size, 0, none⟩ = some (.int .i64 p) ∧ w.heap.size < wx.heap.size) ⟨hst.keep (by (repeat' first | (with_reducible first | exact zb0 _ _ | assumption | refine zb1 ?_ ?_ _ | refine zb2 ?_ | refine zb3 ?_ _ | refine zb4 ?_ ?_ _ | refine zb5 (by assumption) ?_ ?_ | exact zb6 _) | omega | (simp only [zsz]; omega) | (simp; omega))), RKept.of_below hK (by (repeat' first | (with_reducible first | exact zb0 _ _ | assumption | refine zb1 ?_ ?_ _ | refine zb2 ?_ | refine zb3 ?_ _ | refine zb4 ?_ ?_ _ | refine zb5 (by assumption) ?_ ?_ | exact zb6 _) | omega | (simp only [zsz]; omega) | (simp; omega))), by go_simp, by (first | omega | (simp; omega))⟩ ?_
  clear z0 z1 z2 z3 z4 hbn hstn hDn hX
  rintro wx ⟨hsx, hkx, y0, hXx⟩
  have c5 : wx.cell? ⟨lk, 5, none⟩ = some cv := cell_of_row _ _ _ _ _ _ hsx.row
  have hox := Lib.hid hsx.oc
  have hlr : (S.C.reverse.length : Int) ≤ 1073741824 := by rw [List.length_reverse]; omega
  have hmem : a ∈ S.C ↔ a ∈ S.C.reverse := by simp
  have HM := Lib.hid hmem
  have hrev : (a :: S.C).reverse = S.C.reverse ++ [a] := by simp
  have HV := Lib.hid hrev
  clear hmem hrev
  generalize hCR : S.C.reverse = CR at *
  rcases hox.out.2 with ⟨rfl, h0⟩ | ⟨g, cp, cur, rfl, -, hg, hn, hm, hsz, hxs⟩
  · have : CR = [] := by simpa using h0
    subst this
    clear h0
    go_wp2_with fail
    go_loop [9] (fun i => i = .int .i64 0) (fun _ => 0)
    case atStart => rfl
    case round =>
      subst hrel
      have hnm : a ∉ S.C := fun hx => by have := HM.out.1 hx; simp at this
      have hr2 := HR.out
      rw [if_neg hnm] at hr2
      clear hnm
      by_cases hsb : S.s + (s.length + 1) ≤ bud
      · rw [if_pos hsb] at hr2
        subst hr2
        go_wp2_with (first | (go_at_call 51; refine (rsteps_ok_raw lk _ lv _ dp bud S.s at_ ((s.length : Int) + 1) p _ hsx.row hsb hs0 hbd (by omega)).mono ?_; rintro en w2 ⟨rfl, hr2, ht2⟩; have hst2 := hsx.told ht2 hr2; have hk2 := hsx.tkept ht2; have q5 := cell_of_row w2 lk 5 _ _ _ hr2; simp only [rkCells, List.getElem?_toArray, List.getElem?_cons_succ, List.getElem?_cons_zero] at q5; clear hr2 ht2) | (at_builtin; refine wpList_append_where _ rfl _ _ 69 rfl 3 i0 (.int .i64 0) 1 8 Try.underlying69 Hi.out iz0 iz1 iz2 rfl (by decide) _ _ _ rfl (hst2.keep ((Below.refl _ _).alloc (Nat.le_refl _) _)).oc ⟨w2.heap.size, 0, none⟩ 1 1 [.int .i64 a] rfl rfl ?c2 ?c3 ?c4 ?c5 ?_))
        case c2 => exact one_cell (u := .int .i64 a) (heap_alloc_new w2 _)
        case c3 => intro u hu; rw [List.mem_singleton.1 hu]; rfl
        case c4 => unfold maxLen; omega
        case c5 => omega
        intro v' w3 ho hg hwh
        obtain ⟨A', n', c', rfl⟩ := owns_form ho
        have hb2 : Below w2.heap.size w2 (w2.alloc (.cells #[.int .i64 a] 3)) := (Below.refl _ _).alloc (Nat.le_refl _) _
        have hrow3 : w3.heap[lk]? = some (.cells (rkCells (.slice (some ⟨b, o, none⟩) n cap) dp bud _ lv _ _ _) 71 (0, 0)) := (hg.block lk (by have := hst2.lkt; simp; omega) (fun e => hst2.n1.2 e.symm)).trans ((hb2.block lk hst2.lkt).trans hst2.row)
        have k5 := cell_of_row w3 lk 5 _ _ _ hrow3
        simp only [rkCells, List.getElem?_toArray, List.getElem?_cons_succ, List.getElem?_cons_zero] at k5
        have k5f := frozen_of_row w3 lk 5 _ _ hrow3
        have hfi := hst2.counted hb2 a ho hg (hwh.elim .inl (fun e => .inr (e.trans (by simp))))
        have hfin := Lib.hid hfi.1
        have hfk := Lib.hid ((hkx.trans hk2).trans hfi.2)
        clear hfi
        clear ho hg hwh hrow3
        go_wp2
        go_returns
        refine ⟨rfl, ⟨⟨at_, lv, .slice A' n' c', ?_⟩, by dsimp only; omega, hsb, hbd, h.kn, h.nd, by dsimp only [List.length_cons]; push_cast; omega⟩, hfk.out⟩
        rw [HV.out]; exact hfin.out
      · rw [if_neg hsb] at hr2
        subst hr2
        go_wp2_with (first | (go_at_call 51; refine (rsteps_no_raw lk _ lv _ dp bud S.s at_ ((s.length : Int) + 1) p _ hsx.row hsb hs0 hbd hs1).mono ?_; rintro en w2 ⟨rfl, hr2, ht2⟩; have hst2 := hsx.told ht2 hr2; have hk2 := hsx.tkept ht2; have q5 := cell_of_row w2 lk 5 _ _ _ hr2; simp only [rkCells, List.getElem?_toArray, List.getElem?_cons_succ, List.getElem?_cons_zero] at q5; clear hr2 ht2) | (at_builtin; refine wpList_append_where _ rfl _ _ 69 rfl 3 i0 (.int .i64 0) 1 8 Try.underlying69 Hi.out iz0 iz1 iz2 rfl (by decide) _ _ _ rfl (hst2.keep ((Below.refl _ _).alloc (Nat.le_refl _) _)).oc ⟨w2.heap.size, 0, none⟩ 1 1 [.int .i64 a] rfl rfl ?c2 ?c3 ?c4 ?c5 ?_))
        case c2 => exact one_cell (u := .int .i64 a) (heap_alloc_new w2 _)
        case c3 => intro u hu; rw [List.mem_singleton.1 hu]; rfl
        case c4 => unfold maxLen; omega
        case c5 => omega
        intro v' w3 ho hg hwh
        obtain ⟨A', n', c', rfl⟩ := owns_form ho
        have hb2 : Below w2.heap.size w2 (w2.alloc (.cells #[.int .i64 a] 3)) := (Below.refl _ _).alloc (Nat.le_refl _) _
        have hrow3 : w3.heap[lk]? = some (.cells (rkCells (.slice (some ⟨b, o, none⟩) n cap) dp bud _ lv _ _ _) 71 (0, 0)) := (hg.block lk (by have := hst2.lkt; simp; omega) (fun e => hst2.n1.2 e.symm)).trans ((hb2.block lk hst2.lkt).trans hst2.row)
        have k5 := cell_of_row w3 lk 5 _ _ _ hrow3
        simp only [rkCells, List.getElem?_toArray, List.getElem?_cons_succ, List.getElem?_cons_zero] at k5
        have k5f := frozen_of_row w3 lk 5 _ _ hrow3
        have hfi := hst2.counted hb2 a ho hg (hwh.elim .inl (fun e => .inr (e.trans (by simp))))
        have hfin := Lib.hid hfi.1
        have hfk := Lib.hid ((hkx.trans hk2).trans hfi.2)
        clear hfi
        clear ho hg hwh hrow3
        go_wp2
        go_returns
        exact ⟨⟨_, rfl, hl0⟩, ⟨by omega, hs0, bud, lv, _, _, _, hs1, hbd, hfin.out⟩, hfk.out⟩
  · have hG : ∀ j, j < CR.length * 1 → wx.cell? ⟨g, j, none⟩ = (intRow CR)[j]? := fun j hj => hox.out.cellAt j hj
    have HG := Lib.hid hG
    clear hg hsz hxs hG hn hm
    go_wp2_with fail
    go_loop [9] (fun i => ∃ j : Nat, j ≤ CR.length ∧ i = .int .i64 j ∧ a ∉ CR.take j) (fun i => CR.length - (intOf i).toNat)
    case atStart => exact ⟨0, by omega, rfl, by simp⟩
    case round =>
      obtain ⟨j, hj, rfl, hnt⟩ := hrel
      have HT := Lib.hid hnt
      clear hnt
      by_cases hlt : j < CR.length
      · have hlt' : (j : Int) < (CR.length : Int) := by omega
        have y2 : wx.cell? ⟨g, j, none⟩ = some (.int .i64 CR[j]) := by rw [HG.out j (by omega), intRow_at CR j hlt]
        have hta : CR.take (j + 1) = CR.take j ++ [CR[j]] := by rw [List.take_succ_eq_append_getElem hlt]
        have hin : CR[j] ∈ CR := List.getElem_mem hlt
        have HTA := Lib.hid hta
        have HI := Lib.hid hin
        clear hta hin
        generalize CR[j] = u at *
        clear hlt
        by_cases e1 : u = a
        · subst e1
          have hr2 := HR.out
          rw [if_pos (HM.out.2 HI.out)] at hr2
          subst hr2
          go_wp2
          go_returns
          exact ⟨rfl, ⟨⟨at_, lv, _, hCR ▸ hsx⟩, hs0, hs1, hbd, h.kn, h.nd, hcs⟩, by (repeat' first | (with_reducible first | exact RKept.refl _ _ | assumption | refine RKept.alloc hK ?_ ?_ _ | refine RKept.drew ?_ | refine RKept.drewN hK ?_ _ | refine RKept.setCell hK ?_ ?_ _ | refine rkept_same (by assumption) ?_ | refine rkept_call (by assumption) ?_ | refine rkept_below hK (by assumption) ?_ ?_ | exact zb6 _) | omega | (simp only [zsz]; omega) | (simp; omega))⟩
        · have e1' : (u == a) = false := by simpa using e1
          have HE := Lib.hid e1
          clear e1
          go_wp2
          go_round
          case rel => exact ⟨j + 1, by omega, by go_num, by rw [HTA.out]; simp only [List.mem_append, List.mem_singleton, not_or]; exact ⟨HT.out, fun hx => HE.out hx.symm⟩⟩
          case measure => simp only [intOf]; omega
      · have hlt' : ¬ (j : Int) < (CR.length : Int) := by omega
        have hnm : a ∉ S.C := fun hx => HT.out (by rw [List.take_of_length_le (by omega)]; exact HM.out.1 hx)
        have hr2 := HR.out
        rw [if_neg hnm] at hr2
        clear hnm
        by_cases hsb : S.s + (s.length + 1) ≤ bud
        · rw [if_pos hsb] at hr2
          subst hr2
          go_wp2_with (first | (go_at_call 51; refine (rsteps_ok_raw lk _ lv _ dp bud S.s at_ ((s.length : Int) + 1) p _ hsx.row hsb hs0 hbd (by omega)).mono ?_; rintro en w2 ⟨rfl, hr2, ht2⟩; have hst2 := hsx.told ht2 hr2; have hk2 := hsx.tkept ht2; have q5 := cell_of_row w2 lk 5 _ _ _ hr2; simp only [rkCells, List.getElem?_toArray, List.getElem?_cons_succ, List.getElem?_cons_zero] at q5; clear hr2 ht2) | (at_builtin; refine wpList_append_where _ rfl _ _ 69 rfl 3 i0 (.int .i64 0) 1 8 Try.underlying69 Hi.out iz0 iz1 iz2 rfl (by decide) _ _ _ rfl (hst2.keep ((Below.refl _ _).alloc (Nat.le_refl _) _)).oc ⟨w2.heap.size, 0, none⟩ 1 1 [.int .i64 a] rfl rfl ?c2 ?c3 ?c4 ?c5 ?_))
          case c2 => exact one_cell (u := .int .i64 a) (heap_alloc_new w2 _)
          case c3 => intro u hu; rw [List.mem_singleton.1 hu]; rfl
          case c4 => unfold maxLen; omega
          case c5 => omega
          intro v' w3 ho hg hwh
          obtain ⟨A', n', c', rfl⟩ := owns_form ho
          have hb2 : Below w2.heap.size w2 (w2.alloc (.cells #[.int .i64 a] 3)) := (Below.refl _ _).alloc (Nat.le_refl _) _
          have hrow3 : w3.heap[lk]? = some (.cells (rkCells (.slice (some ⟨b, o, none⟩) n cap) dp bud _ lv _ _ _) 71 (0, 0)) := (hg.block lk (by have := hst2.lkt; simp; omega) (fun e => hst2.n1.2 e.symm)).trans ((hb2.block lk hst2.lkt).trans hst2.row)
          have k5 := cell_of_row w3 lk 5 _ _ _ hrow3
          simp only [rkCells, List.getElem?_toArray, List.getElem?_cons_succ, List.getElem?_cons_zero] at k5
          have k5f := frozen_of_row w3 lk 5 _ _ hrow3
          have hfi := hst2.counted hb2 a ho hg (hwh.elim .inl (fun e => .inr (e.trans (by simp))))
          have hfin := Lib.hid hfi.1
          have hfk := Lib.hid ((hkx.trans hk2).trans hfi.2)
          clear hfi
          clear ho hg hwh hrow3
          go_wp2
          go_returns
          refine ⟨rfl, ⟨⟨at_, lv, .slice A' n' c', ?_⟩, by dsimp only; omega, hsb, hbd, h.kn, h.nd, by dsimp only [List.length_cons]; push_cast; omega⟩, hfk.out⟩
          rw [HV.out]; exact hfin.out
        · rw [if_neg hsb] at hr2
          subst hr2
          go_wp2_with (first | (go_at_call 51; refine (rsteps_no_raw lk _ lv _ dp bud S.s at_ ((s.length : Int) + 1) p _ hsx.row hsb hs0 hbd hs1).mono ?_; rintro en w2 ⟨rfl, hr2, ht2⟩; have hst2 := hsx.told ht2 hr2; have hk2 := hsx.tkept ht2; have q5 := cell_of_row w2 lk 5 _ _ _ hr2; simp only [rkCells, List.getElem?_toArray, List.getElem?_cons_succ, List.getElem?_cons_zero] at q5; clear hr2 ht2) | (at_builtin; refine wpList_append_where _ rfl _ _ 69 rfl 3 i0 (.int .i64 0) 1 8 Try.underlying69 Hi.out iz0 iz1 iz2 rfl (by decide) _ _ _ rfl (hst2.keep ((Below.refl _ _).alloc (Nat.le_refl _) _)).oc ⟨w2.heap.size, 0, none⟩ 1 1 [.int .i64 a] rfl rfl ?c2 ?c3 ?c4 ?c5 ?_))
          case c2 => exact one_cell (u := .int .i64 a) (heap_alloc_new w2 _)
          case c3 => intro u hu; rw [List.mem_singleton.1 hu]; rfl
          case c4 => unfold maxLen; omega
          case c5 => omega
          intro v' w3 ho hg hwh
          obtain ⟨A', n', c', rfl⟩ := owns_form ho
          have hb2 : Below w2.heap.size w2 (w2.alloc (.cells #[.int .i64 a] 3)) := (Below.refl _ _).alloc (Nat.le_refl _) _
          have hrow3 : w3.heap[lk]? = some (.cells (rkCells (.slice (some ⟨b, o, none⟩) n cap) dp bud _ lv _ _ _) 71 (0, 0)) := (hg.block lk (by have := hst2.lkt; simp; omega) (fun e => hst2.n1.2 e.symm)).trans ((hb2.block lk hst2.lkt).trans hst2.row)
          have k5 := cell_of_row w3 lk 5 _ _ _ hrow3
          simp only [rkCells, List.getElem?_toArray, List.getElem?_cons_succ, List.getElem?_cons_zero] at k5
          have k5f := frozen_of_row w3 lk 5 _ _ hrow3
          have hfi := hst2.counted hb2 a ho hg (hwh.elim .inl (fun e => .inr (e.trans (by simp))))
          have hfin := Lib.hid hfi.1
          have hfk := Lib.hid ((hkx.trans hk2).trans hfi.2)
          clear hfi
          clear ho hg hwh hrow3
          go_wp2
          go_returns
          exact ⟨⟨_, rfl, hl0⟩, ⟨by omega, hs0, bud, lv, _, _, _, hs1, hbd, hfin.out⟩, hfk.out⟩
end
end Go.Proofs.Ytmpflnlajakibaa
