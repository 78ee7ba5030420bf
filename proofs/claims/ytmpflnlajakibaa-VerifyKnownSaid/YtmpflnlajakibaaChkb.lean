/- The reference's check: Look, the ways that end before the data. -/
import Derived.Test.YtmpflnlajakibaaChk9
namespace Go.Proofs.Ytmpflnlajakibaa
set_option linter.unusedVariables false
set_option linter.unusedSimpArgs false
set_option linter.unusedSectionVars false
open Go.RowKit
section
variable {K : Nat → Prop} {w w' : World} {lk b o n cap : Nat} {D : List UInt8} {dp bud : Int} {S : VS}
set_option maxHeartbeats 8000000 in
set_option maxRecDepth 100000 in
theorem rlook_a (h : ROk K w lk b o n cap D dp bud S) (p q t k lim deep : Int) (hs : ¬ S.s + 1 ≤ bud) :
    Calls Try.prog 31 #[.pointer (some ⟨lk, 0, none⟩), .agg #[.int .i64 p, .int .i64 q, .int .i64 t, .int .i64 k], .int .i64 lim, .int .i64 deep] w (RLP K w lk b o n cap D dp bud (.error (S.s, p, 290))) := by
  have hK := h.hK
  have hlk := h.lkt
  have hD := h.doc
  have HB := Lib.hid h.kb
  by_cases hd : dp < deep
  · have hd' : decide (dp < deep) = true := by simpa using hd
    go_enter Try.func31, Try.ntmps31
    go_upto_region 1 with fail
    refine wp_named (fun wn => ROk (fun i => K i ∨ i = w.heap.size) wn lk b o n cap D dp bud S ∧ RKept K w wn ∧ w.heap.size < wn.heap.size ∧ CL wn w.heap.size p q t k) ⟨h.enter (by (repeat' first | (with_reducible first | exact zb0 _ _ | assumption | refine zb1 ?_ ?_ _ | refine zb2 ?_ | refine zb3 ?_ _ | refine zb4 ?_ ?_ _ | refine zb5 (by assumption) ?_ ?_ | exact zb6 _) | omega | (simp <;> omega))) (fun i hi => by subst hi; simp), by (repeat' first | (with_reducible first | exact zr0 _ _ | assumption | refine zr1 hK ?_ ?_ _ | refine zr2 ?_ | refine zr3 hK ?_ _ | refine zr4 hK ?_ ?_ _ | refine zr5 (by assumption) ?_ | refine zr6 (by assumption) ?_ | refine zr7 hK (by assumption) ?_ ?_ | exact zb6 _) | omega | (simp <;> omega)), by simp, by go_simp, by go_simp, by go_simp, by go_simp⟩ ?_
    obtain ⟨X, hX0⟩ : ∃ X, w.heap.size = X := ⟨_, rfl⟩
    rw [hX0]
    have hXn : w.heap.size ≤ X := by omega
    rintro wn ⟨hvn, hkn, hX, z0, z1, z2, z3⟩
    go_wp2_with (first | (go_at_call 51; refine (rsteps_no (hvn.keep (by (repeat' first | (with_reducible first | exact zb0 _ _ | assumption | refine zb1 ?_ ?_ _ | refine zb2 ?_ | refine zb3 ?_ _ | refine zb4 ?_ ?_ _ | refine zb5 (by assumption) ?_ ?_ | exact zb6 _) | omega | (simp <;> omega)))) 1 p hs).mono ?_; rintro en w2 ⟨rfl, hv2, hk2⟩; have y1 := hv2.c1; have y7 := hv2.c7; have a0 := hk2.cell (x := X) (.inr rfl); have hz2 := hk2.size; have hm2 := hk2.mono (K := K) (fun i hi => Or.inl hi)) | (go_at_call 52; refine (rtell_still hv2 p 61).mono ?_; rintro en w3 ⟨rfl, hv3, hk3⟩; have b7 := hv3.c7; have hm3 := hk3.mono (K := K) (fun i hi => Or.inl hi)))
    go_returns
    exact ⟨⟨_, rfl⟩, hv3.less HB.out, by (repeat' first | (with_reducible first | exact zr0 _ _ | assumption | refine zr1 hK ?_ ?_ _ | refine zr2 ?_ | refine zr3 hK ?_ _ | refine zr4 hK ?_ ?_ _ | refine zr5 (by assumption) ?_ | refine zr6 (by assumption) ?_ | refine zr7 hK (by assumption) ?_ ?_ | exact zb6 _) | omega | (simp <;> omega))⟩
  · have hd' : decide (dp < deep) = false := by simpa using hd
    go_enter Try.func31, Try.ntmps31
    go_upto_region 1 with fail
    refine wp_named (fun wn => ROk (fun i => K i ∨ i = w.heap.size) wn lk b o n cap D dp bud S ∧ RKept K w wn ∧ w.heap.size < wn.heap.size ∧ CL wn w.heap.size p q t k) ⟨h.enter (by (repeat' first | (with_reducible first | exact zb0 _ _ | assumption | refine zb1 ?_ ?_ _ | refine zb2 ?_ | refine zb3 ?_ _ | refine zb4 ?_ ?_ _ | refine zb5 (by assumption) ?_ ?_ | exact zb6 _) | omega | (simp <;> omega))) (fun i hi => by subst hi; simp), by (repeat' first | (with_reducible first | exact zr0 _ _ | assumption | refine zr1 hK ?_ ?_ _ | refine zr2 ?_ | refine zr3 hK ?_ _ | refine zr4 hK ?_ ?_ _ | refine zr5 (by assumption) ?_ | refine zr6 (by assumption) ?_ | refine zr7 hK (by assumption) ?_ ?_ | exact zb6 _) | omega | (simp <;> omega)), by simp, by go_simp, by go_simp, by go_simp, by go_simp⟩ ?_
    obtain ⟨X, hX0⟩ : ∃ X, w.heap.size = X := ⟨_, rfl⟩
    rw [hX0]
    have hXn : w.heap.size ≤ X := by omega
    rintro wn ⟨hvn, hkn, hX, z0, z1, z2, z3⟩
    go_wp2_with (go_at_call 51; refine (rsteps_no (hvn.keep (by (repeat' first | (with_reducible first | exact zb0 _ _ | assumption | refine zb1 ?_ ?_ _ | refine zb2 ?_ | refine zb3 ?_ _ | refine zb4 ?_ ?_ _ | refine zb5 (by assumption) ?_ ?_ | exact zb6 _) | omega | (simp <;> omega)))) 1 p hs).mono ?_; rintro en w2 ⟨rfl, hv2, hk2⟩; have y1 := hv2.c1; have y7 := hv2.c7; have a0 := hk2.cell (x := X) (.inr rfl); have hz2 := hk2.size; have hm2 := hk2.mono (K := K) (fun i hi => Or.inl hi))
    go_returns
    exact ⟨⟨_, rfl⟩, hv2.less HB.out, by (repeat' first | (with_reducible first | exact zr0 _ _ | assumption | refine zr1 hK ?_ ?_ _ | refine zr2 ?_ | refine zr3 hK ?_ _ | refine zr4 hK ?_ ?_ _ | refine zr5 (by assumption) ?_ | refine zr6 (by assumption) ?_ | refine zr7 hK (by assumption) ?_ ?_ | exact zb6 _) | omega | (simp <;> omega))⟩
set_option maxHeartbeats 8000000 in
set_option maxRecDepth 100000 in
theorem rlook_b (h : ROk K w lk b o n cap D dp bud S) (p q t k lim deep : Int) (hs : S.s + 1 ≤ bud) (hd : dp < deep) :
    Calls Try.prog 31 #[.pointer (some ⟨lk, 0, none⟩), .agg #[.int .i64 p, .int .i64 q, .int .i64 t, .int .i64 k], .int .i64 lim, .int .i64 deep] w (RLP K w lk b o n cap D dp bud (.error (S.s + 1, p, 61))) := by
  have hK := h.hK
  have hlk := h.lkt
  have hD := h.doc
  have HB := Lib.hid h.kb
  have hd' : decide (dp < deep) = true := by simpa using hd
  go_enter Try.func31, Try.ntmps31
  go_upto_region 1 with fail
  refine wp_named (fun wn => ROk (fun i => K i ∨ i = w.heap.size) wn lk b o n cap D dp bud S ∧ RKept K w wn ∧ w.heap.size < wn.heap.size ∧ CL wn w.heap.size p q t k) ⟨h.enter (by (repeat' first | (with_reducible first | exact zb0 _ _ | assumption | refine zb1 ?_ ?_ _ | refine zb2 ?_ | refine zb3 ?_ _ | refine zb4 ?_ ?_ _ | refine zb5 (by assumption) ?_ ?_ | exact zb6 _) | omega | (simp <;> omega))) (fun i hi => by subst hi; simp), by (repeat' first | (with_reducible first | exact zr0 _ _ | assumption | refine zr1 hK ?_ ?_ _ | refine zr2 ?_ | refine zr3 hK ?_ _ | refine zr4 hK ?_ ?_ _ | refine zr5 (by assumption) ?_ | refine zr6 (by assumption) ?_ | refine zr7 hK (by assumption) ?_ ?_ | exact zb6 _) | omega | (simp <;> omega)), by simp, by go_simp, by go_simp, by go_simp, by go_simp⟩ ?_
  obtain ⟨X, hX0⟩ : ∃ X, w.heap.size = X := ⟨_, rfl⟩
  rw [hX0]
  have hXn : w.heap.size ≤ X := by omega
  rintro wn ⟨hvn, hkn, hX, z0, z1, z2, z3⟩
  go_wp2_with (first | (go_at_call 51; refine (rsteps_ok (hvn.keep (by (repeat' first | (with_reducible first | exact zb0 _ _ | assumption | refine zb1 ?_ ?_ _ | refine zb2 ?_ | refine zb3 ?_ _ | refine zb4 ?_ ?_ _ | refine zb5 (by assumption) ?_ ?_ | exact zb6 _) | omega | (simp <;> omega)))) 1 p (by omega) hs).mono ?_; rintro en w2 ⟨rfl, hv2, hk2⟩; have y1 := hv2.c1; have y7 := hv2.c7; have a0 := hk2.cell (x := X) (.inr rfl); have hz2 := hk2.size; have hm2 := hk2.mono (K := K) (fun i hi => Or.inl hi)) | (go_at_call 52; refine (rtell_no (hv2.keep (by (repeat' first | (with_reducible first | exact zb0 _ _ | assumption | refine zb1 ?_ ?_ _ | refine zb2 ?_ | refine zb3 ?_ _ | refine zb4 ?_ ?_ _ | refine zb5 (by assumption) ?_ ?_ | exact zb6 _) | omega | (simp <;> omega)))) p 61 (by omega)).mono ?_; rintro en w3 ⟨rfl, hv3, hk3⟩; have b7 := hv3.c7; have hm3 := hk3.mono (K := K) (fun i hi => Or.inl hi); have b0 := hk3.cell (x := X) (.inr rfl)))
  go_returns
  exact ⟨⟨_, rfl⟩, hv3.less HB.out, by (repeat' first | (with_reducible first | exact zr0 _ _ | assumption | refine zr1 hK ?_ ?_ _ | refine zr2 ?_ | refine zr3 hK ?_ _ | refine zr4 hK ?_ ?_ _ | refine zr5 (by assumption) ?_ | refine zr6 (by assumption) ?_ | refine zr7 hK (by assumption) ?_ ?_ | exact zb6 _) | omega | (simp <;> omega))⟩
set_option maxHeartbeats 8000000 in
set_option maxRecDepth 100000 in
theorem rlook_c (h : ROk K w lk b o n cap D dp bud S) (p q t k lim deep : Int) (hs : S.s + 1 ≤ bud) (hd : ¬ dp < deep) (hi : inlineB t = true) :
    Calls Try.prog 31 #[.pointer (some ⟨lk, 0, none⟩), .agg #[.int .i64 p, .int .i64 q, .int .i64 t, .int .i64 k], .int .i64 lim, .int .i64 deep] w (RLP K w lk b o n cap D dp bud (.ok ({ S with s := S.s + 1 }, 1))) := by
  have hK := h.hK
  have hlk := h.lkt
  have hD := h.doc
  have HB := Lib.hid h.kb
  have hd' : decide (dp < deep) = false := by simpa using hd
  go_enter Try.func31, Try.ntmps31
  go_upto_region 1 with fail
  refine wp_named (fun wn => ROk (fun i => K i ∨ i = w.heap.size) wn lk b o n cap D dp bud S ∧ RKept K w wn ∧ w.heap.size < wn.heap.size ∧ CL wn w.heap.size p q t k) ⟨h.enter (by (repeat' first | (with_reducible first | exact zb0 _ _ | assumption | refine zb1 ?_ ?_ _ | refine zb2 ?_ | refine zb3 ?_ _ | refine zb4 ?_ ?_ _ | refine zb5 (by assumption) ?_ ?_ | exact zb6 _) | omega | (simp <;> omega))) (fun i hi => by subst hi; simp), by (repeat' first | (with_reducible first | exact zr0 _ _ | assumption | refine zr1 hK ?_ ?_ _ | refine zr2 ?_ | refine zr3 hK ?_ _ | refine zr4 hK ?_ ?_ _ | refine zr5 (by assumption) ?_ | refine zr6 (by assumption) ?_ | refine zr7 hK (by assumption) ?_ ?_ | exact zb6 _) | omega | (simp <;> omega)), by simp, by go_simp, by go_simp, by go_simp, by go_simp⟩ ?_
  obtain ⟨X, hX0⟩ : ∃ X, w.heap.size = X := ⟨_, rfl⟩
  rw [hX0]
  have hXn : w.heap.size ≤ X := by omega
  rintro wn ⟨hvn, hkn, hX, z0, z1, z2, z3⟩
  go_wp2_with (first | (go_at_call 51; refine (rsteps_ok (hvn.keep (by (repeat' first | (with_reducible first | exact zb0 _ _ | assumption | refine zb1 ?_ ?_ _ | refine zb2 ?_ | refine zb3 ?_ _ | refine zb4 ?_ ?_ _ | refine zb5 (by assumption) ?_ ?_ | exact zb6 _) | omega | (simp <;> omega)))) 1 p (by omega) hs).mono ?_; rintro en w2 ⟨rfl, hv2, hk2⟩; have y1 := hv2.c1; have y7 := hv2.c7; have a0 := hk2.cell (x := X) (.inr rfl); have hz2 := hk2.size; have hm2 := hk2.mono (K := K) (fun i hi => Or.inl hi)) | (go_at_call 53; refine (rinline_any _ _).mono ?_; rintro e w1 ⟨rfl, rfl⟩))
  go_returns
  exact ⟨rfl, hv2.less HB.out, by (repeat' first | (with_reducible first | exact zr0 _ _ | assumption | refine zr1 hK ?_ ?_ _ | refine zr2 ?_ | refine zr3 hK ?_ _ | refine zr4 hK ?_ ?_ _ | refine zr5 (by assumption) ?_ | refine zr6 (by assumption) ?_ | refine zr7 hK (by assumption) ?_ ?_ | exact zb6 _) | omega | (simp <;> omega))⟩
set_option maxHeartbeats 8000000 in
set_option maxRecDepth 100000 in
theorem rlook_d (h : ROk K w lk b o n cap D dp bud S) (p q t k lim deep : Int) (hm : mayE n p q t k = 0) (hs : S.s + 1 ≤ bud) (hd : ¬ dp < deep) (hi : inlineB t = false) (ht : ¬ tgtB D p q t k lim = true) :
    Calls Try.prog 31 #[.pointer (some ⟨lk, 0, none⟩), .agg #[.int .i64 p, .int .i64 q, .int .i64 t, .int .i64 k], .int .i64 lim, .int .i64 deep] w (RLP K w lk b o n cap D dp bud (.error (S.s + 1, p, 211))) := by
  have hK := h.hK
  have hlk := h.lkt
  have hD := h.doc
  have HB := Lib.hid h.kb
  have hd' : decide (dp < deep) = false := by simpa using hd
  go_enter Try.func31, Try.ntmps31
  go_upto_region 1 with fail
  refine wp_named (fun wn => ROk (fun i => K i ∨ i = w.heap.size) wn lk b o n cap D dp bud S ∧ RKept K w wn ∧ w.heap.size < wn.heap.size ∧ CL wn w.heap.size p q t k) ⟨h.enter (by (repeat' first | (with_reducible first | exact zb0 _ _ | assumption | refine zb1 ?_ ?_ _ | refine zb2 ?_ | refine zb3 ?_ _ | refine zb4 ?_ ?_ _ | refine zb5 (by assumption) ?_ ?_ | exact zb6 _) | omega | (simp <;> omega))) (fun i hi => by subst hi; simp), by (repeat' first | (with_reducible first | exact zr0 _ _ | assumption | refine zr1 hK ?_ ?_ _ | refine zr2 ?_ | refine zr3 hK ?_ _ | refine zr4 hK ?_ ?_ _ | refine zr5 (by assumption) ?_ | refine zr6 (by assumption) ?_ | refine zr7 hK (by assumption) ?_ ?_ | exact zb6 _) | omega | (simp <;> omega)), by simp, by go_simp, by go_simp, by go_simp, by go_simp⟩ ?_
  obtain ⟨X, hX0⟩ : ∃ X, w.heap.size = X := ⟨_, rfl⟩
  rw [hX0]
  have hXn : w.heap.size ≤ X := by omega
  rintro wn ⟨hvn, hkn, hX, z0, z1, z2, z3⟩
  go_wp2_with (first | (go_at_call 51; refine (rsteps_ok (hvn.keep (by (repeat' first | (with_reducible first | exact zb0 _ _ | assumption | refine zb1 ?_ ?_ _ | refine zb2 ?_ | refine zb3 ?_ _ | refine zb4 ?_ ?_ _ | refine zb5 (by assumption) ?_ ?_ | exact zb6 _) | omega | (simp <;> omega)))) 1 p (by omega) hs).mono ?_; rintro en w2 ⟨rfl, hv2, hk2⟩; have y1 := hv2.c1; have y7 := hv2.c7; have a0 := hk2.cell (x := X) (.inr rfl); have hz2 := hk2.size; have hm2 := hk2.mono (K := K) (fun i hi => Or.inl hi)) | (go_at_call 53; refine (rinline_any _ _).mono ?_; rintro e w1 ⟨rfl, rfl⟩) | (go_at_call 54; refine (rtgtNo hv2 p q t k lim hm (refB_of (mayE_zero hm).1 hi) ht).mono ?_; rintro en w4 ⟨rfl, hv4, hk4⟩; have d7 := hv4.c7; have hm4 := hk4.mono (K := K) (fun i hi => Or.inl hi)))
  go_returns
  exact ⟨⟨_, rfl⟩, hv4.less HB.out, by (repeat' first | (with_reducible first | exact zr0 _ _ | assumption | refine zr1 hK ?_ ?_ _ | refine zr2 ?_ | refine zr3 hK ?_ _ | refine zr4 hK ?_ ?_ _ | refine zr5 (by assumption) ?_ | refine zr6 (by assumption) ?_ | refine zr7 hK (by assumption) ?_ ?_ | exact zb6 _) | omega | (simp <;> omega))⟩
set_option maxHeartbeats 8000000 in
set_option maxRecDepth 100000 in
theorem rlook_e4 (h : ROk K w lk b o n cap D dp bud S) (p q k lim deep : Int) (hm : mayE n p q 4 k = 0) (hl : (S.L.length : Int) ≤ 4294967296) (hs : S.s + 1 ≤ bud) (hd : ¬ dp < deep) (hi : inlineB 4 = false) (ht : tgtB D p q 4 k lim = true) (hd0 : 0 ≤ deep) (hd1 : deep ≤ 2147483648) (hh : Int) (hkn : vknown S.L (4, p - loadV D p q, 0) = some hh) (h1 : 1 ≤ hh) (h2 : hh ≤ 2147483648) (hle : deep + hh - 1 ≤ dp) :
    Calls Try.prog 31 #[.pointer (some ⟨lk, 0, none⟩), .agg #[.int .i64 p, .int .i64 q, .int .i64 4, .int .i64 k], .int .i64 lim, .int .i64 deep] w (RLP K w lk b o n cap D dp bud (.ok ({ S with s := S.s + 1 }, hh))) := by
  have hK := h.hK
  have hlk := h.lkt
  have hD := h.doc
  have HB := Lib.hid h.kb
  have hd' : decide (dp < deep) = false := by simpa using hd
  have HN : Hid ((vknown S.L (4, p - loadV D p q, 0)).getD 0 = hh) := Lib.hid (by rw [hkn]; rfl)
  have w1 : IntKind.i64.wrap (deep + hh) = deep + hh := IntWalk.i64_in _ (by omega)
  have w2 : IntKind.i64.wrap (deep + hh - 1) = deep + hh - 1 := IntWalk.i64_in _ (by omega)
  have hp : decide (0 < hh) = true := by simp; omega
  clear hkn
  have hle' : decide (dp < deep + hh - 1) = false := by simp; omega
  go_enter Try.func31, Try.ntmps31
  go_upto_region 1 with fail
  refine wp_named (fun wn => ROk (fun i => K i ∨ i = w.heap.size) wn lk b o n cap D dp bud S ∧ RKept K w wn ∧ w.heap.size < wn.heap.size ∧ CL wn w.heap.size p q 4 k) ⟨h.enter (by (repeat' first | (with_reducible first | exact zb0 _ _ | assumption | refine zb1 ?_ ?_ _ | refine zb2 ?_ | refine zb3 ?_ _ | refine zb4 ?_ ?_ _ | refine zb5 (by assumption) ?_ ?_ | exact zb6 _) | omega | (simp <;> omega))) (fun i hi => by subst hi; simp), by (repeat' first | (with_reducible first | exact zr0 _ _ | assumption | refine zr1 hK ?_ ?_ _ | refine zr2 ?_ | refine zr3 hK ?_ _ | refine zr4 hK ?_ ?_ _ | refine zr5 (by assumption) ?_ | refine zr6 (by assumption) ?_ | refine zr7 hK (by assumption) ?_ ?_ | exact zb6 _) | omega | (simp <;> omega)), by simp, by go_simp, by go_simp, by go_simp, by go_simp⟩ ?_
  obtain ⟨X, hX0⟩ : ∃ X, w.heap.size = X := ⟨_, rfl⟩
  rw [hX0]
  have hXn : w.heap.size ≤ X := by omega
  rintro wn ⟨hvn, hkn, hX, z0, z1, z2, z3⟩
  go_wp2_with (first | (go_at_call 51; refine (rsteps_ok (hvn.keep (by (repeat' first | (with_reducible first | exact zb0 _ _ | assumption | refine zb1 ?_ ?_ _ | refine zb2 ?_ | refine zb3 ?_ _ | refine zb4 ?_ ?_ _ | refine zb5 (by assumption) ?_ ?_ | exact zb6 _) | omega | (simp <;> omega)))) 1 p (by omega) hs).mono ?_; rintro en w2 ⟨rfl, hv2, hk2⟩; have y1 := hv2.c1; have y7 := hv2.c7; have a0 := hk2.cell (x := X) (.inr rfl); have hz2 := hk2.size; have hm2 := hk2.mono (K := K) (fun i hi => Or.inl hi)) | (go_at_call 53; refine (rinline_any _ _).mono ?_; rintro e w1 ⟨rfl, rfl⟩) | (go_at_call 54; refine (rtgtOk hv2 p q 4 k lim hm (refB_of (mayE_zero hm).1 hi) ht).mono ?_; rintro en w4 ⟨rfl, hv4, hk4⟩; have d1 := hv4.c1; have d7 := hv4.c7; have hm4 := hk4.mono (K := K) (fun i hi => Or.inl hi); have d0 := hk4.cell (x := X) (.inr rfl); have hz4 := hk4.size) | (go_at_call 55; refine (uknown (S := { S with s := S.s + 1 }) hv4 hl 4 (p - loadV D p q) 0).mono ?_; rw [HN.out]; rintro en w5 ⟨rfl, rfl⟩))
  go_returns
  exact ⟨rfl, hv4.less HB.out, by (repeat' first | (with_reducible first | exact zr0 _ _ | assumption | refine zr1 hK ?_ ?_ _ | refine zr2 ?_ | refine zr3 hK ?_ _ | refine zr4 hK ?_ ?_ _ | refine zr5 (by assumption) ?_ | refine zr6 (by assumption) ?_ | refine zr7 hK (by assumption) ?_ ?_ | exact zb6 _) | omega | (simp <;> omega))⟩
set_option maxHeartbeats 8000000 in
set_option maxRecDepth 100000 in
theorem rlook_en4 (h : ROk K w lk b o n cap D dp bud S) (p q k lim deep : Int) (hm : mayE n p q 4 k = 0) (hl : (S.L.length : Int) ≤ 4294967296) (hs : S.s + 1 ≤ bud) (hd : ¬ dp < deep) (hi : inlineB 4 = false) (ht : tgtB D p q 4 k lim = true) (hd0 : 0 ≤ deep) (hd1 : deep ≤ 2147483648) (hh : Int) (hkn : vknown S.L (4, p - loadV D p q, 0) = some hh) (h1 : 1 ≤ hh) (h2 : hh ≤ 2147483648) (hle : ¬ deep + hh - 1 ≤ dp) :
    Calls Try.prog 31 #[.pointer (some ⟨lk, 0, none⟩), .agg #[.int .i64 p, .int .i64 q, .int .i64 4, .int .i64 k], .int .i64 lim, .int .i64 deep] w (RLP K w lk b o n cap D dp bud (.error (S.s + 1, p, 61))) := by
  have hK := h.hK
  have hlk := h.lkt
  have hD := h.doc
  have HB := Lib.hid h.kb
  have hd' : decide (dp < deep) = false := by simpa using hd
  have HN : Hid ((vknown S.L (4, p - loadV D p q, 0)).getD 0 = hh) := Lib.hid (by rw [hkn]; rfl)
  have w1 : IntKind.i64.wrap (deep + hh) = deep + hh := IntWalk.i64_in _ (by omega)
  have w2 : IntKind.i64.wrap (deep + hh - 1) = deep + hh - 1 := IntWalk.i64_in _ (by omega)
  have hp : decide (0 < hh) = true := by simp; omega
  clear hkn
  have hle' : decide (dp < deep + hh - 1) = true := by simp; omega
  go_enter Try.func31, Try.ntmps31
  go_upto_region 1 with fail
  refine wp_named (fun wn => ROk (fun i => K i ∨ i = w.heap.size) wn lk b o n cap D dp bud S ∧ RKept K w wn ∧ w.heap.size < wn.heap.size ∧ CL wn w.heap.size p q 4 k) ⟨h.enter (by (repeat' first | (with_reducible first | exact zb0 _ _ | assumption | refine zb1 ?_ ?_ _ | refine zb2 ?_ | refine zb3 ?_ _ | refine zb4 ?_ ?_ _ | refine zb5 (by assumption) ?_ ?_ | exact zb6 _) | omega | (simp <;> omega))) (fun i hi => by subst hi; simp), by (repeat' first | (with_reducible first | exact zr0 _ _ | assumption | refine zr1 hK ?_ ?_ _ | refine zr2 ?_ | refine zr3 hK ?_ _ | refine zr4 hK ?_ ?_ _ | refine zr5 (by assumption) ?_ | refine zr6 (by assumption) ?_ | refine zr7 hK (by assumption) ?_ ?_ | exact zb6 _) | omega | (simp <;> omega)), by simp, by go_simp, by go_simp, by go_simp, by go_simp⟩ ?_
  obtain ⟨X, hX0⟩ : ∃ X, w.heap.size = X := ⟨_, rfl⟩
  rw [hX0]
  have hXn : w.heap.size ≤ X := by omega
  rintro wn ⟨hvn, hkn, hX, z0, z1, z2, z3⟩
  go_wp2_with (first | (go_at_call 51; refine (rsteps_ok (hvn.keep (by (repeat' first | (with_reducible first | exact zb0 _ _ | assumption | refine zb1 ?_ ?_ _ | refine zb2 ?_ | refine zb3 ?_ _ | refine zb4 ?_ ?_ _ | refine zb5 (by assumption) ?_ ?_ | exact zb6 _) | omega | (simp <;> omega)))) 1 p (by omega) hs).mono ?_; rintro en w2 ⟨rfl, hv2, hk2⟩; have y1 := hv2.c1; have y7 := hv2.c7; have a0 := hk2.cell (x := X) (.inr rfl); have hz2 := hk2.size; have hm2 := hk2.mono (K := K) (fun i hi => Or.inl hi)) | (go_at_call 53; refine (rinline_any _ _).mono ?_; rintro e w1 ⟨rfl, rfl⟩) | (go_at_call 54; refine (rtgtOk hv2 p q 4 k lim hm (refB_of (mayE_zero hm).1 hi) ht).mono ?_; rintro en w4 ⟨rfl, hv4, hk4⟩; have d1 := hv4.c1; have d7 := hv4.c7; have hm4 := hk4.mono (K := K) (fun i hi => Or.inl hi); have d0 := hk4.cell (x := X) (.inr rfl); have hz4 := hk4.size) | (go_at_call 55; refine (uknown (S := { S with s := S.s + 1 }) hv4 hl 4 (p - loadV D p q) 0).mono ?_; rw [HN.out]; rintro en w5 ⟨rfl, rfl⟩) | (go_at_call 52; refine (rtell_no (hv4.keep (by (repeat' first | (with_reducible first | exact zb0 _ _ | assumption | refine zb1 ?_ ?_ _ | refine zb2 ?_ | refine zb3 ?_ _ | refine zb4 ?_ ?_ _ | refine zb5 (by assumption) ?_ ?_ | exact zb6 _) | omega | (simp <;> omega)))) p 61 (by omega)).mono ?_; rintro en w3 ⟨rfl, hv3, hk3⟩; have b7 := hv3.c7; have hm3 := hk3.mono (K := K) (fun i hi => Or.inl hi); have b0 := hk3.cell (x := X) (.inr rfl)))
  go_returns
  exact ⟨⟨_, rfl⟩, hv3.less HB.out, by (repeat' first | (with_reducible first | exact zr0 _ _ | assumption | refine zr1 hK ?_ ?_ _ | refine zr2 ?_ | refine zr3 hK ?_ _ | refine zr4 hK ?_ ?_ _ | refine zr5 (by assumption) ?_ | refine zr6 (by assumption) ?_ | refine zr7 hK (by assumption) ?_ ?_ | exact zb6 _) | omega | (simp <;> omega))⟩
set_option maxHeartbeats 8000000 in
set_option maxRecDepth 100000 in
theorem rlook_e (h : ROk K w lk b o n cap D dp bud S) (p q t k lim deep : Int) (hm : mayE n p q t k = 0) (hl : (S.L.length : Int) ≤ 4294967296) (hs : S.s + 1 ≤ bud) (hd : ¬ dp < deep) (hi : inlineB t = false) (ht : tgtB D p q t k lim = true) (e4 : (t == 4) = false) (hd0 : 0 ≤ deep) (hd1 : deep ≤ 2147483648) (hh : Int) (hkn : vknown S.L (t, p - loadV D p q, k) = some hh) (h1 : 1 ≤ hh) (h2 : hh ≤ 2147483648) (hle : deep + hh - 1 ≤ dp) :
    Calls Try.prog 31 #[.pointer (some ⟨lk, 0, none⟩), .agg #[.int .i64 p, .int .i64 q, .int .i64 t, .int .i64 k], .int .i64 lim, .int .i64 deep] w (RLP K w lk b o n cap D dp bud (.ok ({ S with s := S.s + 1 }, hh))) := by
  have hK := h.hK
  have hlk := h.lkt
  have hD := h.doc
  have HB := Lib.hid h.kb
  have hd' : decide (dp < deep) = false := by simpa using hd
  have HN : Hid ((vknown S.L (t, p - loadV D p q, k)).getD 0 = hh) := Lib.hid (by rw [hkn]; rfl)
  have w1 : IntKind.i64.wrap (deep + hh) = deep + hh := IntWalk.i64_in _ (by omega)
  have w2 : IntKind.i64.wrap (deep + hh - 1) = deep + hh - 1 := IntWalk.i64_in _ (by omega)
  have hp : decide (0 < hh) = true := by simp; omega
  clear hkn
  have hle' : decide (dp < deep + hh - 1) = false := by simp; omega
  go_enter Try.func31, Try.ntmps31
  go_upto_region 1 with fail
  refine wp_named (fun wn => ROk (fun i => K i ∨ i = w.heap.size) wn lk b o n cap D dp bud S ∧ RKept K w wn ∧ w.heap.size < wn.heap.size ∧ CL wn w.heap.size p q t k) ⟨h.enter (by (repeat' first | (with_reducible first | exact zb0 _ _ | assumption | refine zb1 ?_ ?_ _ | refine zb2 ?_ | refine zb3 ?_ _ | refine zb4 ?_ ?_ _ | refine zb5 (by assumption) ?_ ?_ | exact zb6 _) | omega | (simp <;> omega))) (fun i hi => by subst hi; simp), by (repeat' first | (with_reducible first | exact zr0 _ _ | assumption | refine zr1 hK ?_ ?_ _ | refine zr2 ?_ | refine zr3 hK ?_ _ | refine zr4 hK ?_ ?_ _ | refine zr5 (by assumption) ?_ | refine zr6 (by assumption) ?_ | refine zr7 hK (by assumption) ?_ ?_ | exact zb6 _) | omega | (simp <;> omega)), by simp, by go_simp, by go_simp, by go_simp, by go_simp⟩ ?_
  obtain ⟨X, hX0⟩ : ∃ X, w.heap.size = X := ⟨_, rfl⟩
  rw [hX0]
  have hXn : w.heap.size ≤ X := by omega
  rintro wn ⟨hvn, hkn, hX, z0, z1, z2, z3⟩
  go_wp2_with (first | (go_at_call 51; refine (rsteps_ok (hvn.keep (by (repeat' first | (with_reducible first | exact zb0 _ _ | assumption | refine zb1 ?_ ?_ _ | refine zb2 ?_ | refine zb3 ?_ _ | refine zb4 ?_ ?_ _ | refine zb5 (by assumption) ?_ ?_ | exact zb6 _) | omega | (simp <;> omega)))) 1 p (by omega) hs).mono ?_; rintro en w2 ⟨rfl, hv2, hk2⟩; have y1 := hv2.c1; have y7 := hv2.c7; have a0 := hk2.cell (x := X) (.inr rfl); have hz2 := hk2.size; have hm2 := hk2.mono (K := K) (fun i hi => Or.inl hi)) | (go_at_call 53; refine (rinline_any _ _).mono ?_; rintro e w1 ⟨rfl, rfl⟩) | (go_at_call 54; refine (rtgtOk hv2 p q t k lim hm (refB_of (mayE_zero hm).1 hi) ht).mono ?_; rintro en w4 ⟨rfl, hv4, hk4⟩; have d1 := hv4.c1; have d7 := hv4.c7; have hm4 := hk4.mono (K := K) (fun i hi => Or.inl hi); have d0 := hk4.cell (x := X) (.inr rfl); have hz4 := hk4.size) | (go_at_call 55; refine (uknown (S := { S with s := S.s + 1 }) hv4 hl t (p - loadV D p q) k).mono ?_; rw [HN.out]; rintro en w5 ⟨rfl, rfl⟩))
  go_returns
  exact ⟨rfl, hv4.less HB.out, by (repeat' first | (with_reducible first | exact zr0 _ _ | assumption | refine zr1 hK ?_ ?_ _ | refine zr2 ?_ | refine zr3 hK ?_ _ | refine zr4 hK ?_ ?_ _ | refine zr5 (by assumption) ?_ | refine zr6 (by assumption) ?_ | refine zr7 hK (by assumption) ?_ ?_ | exact zb6 _) | omega | (simp <;> omega))⟩
set_option maxHeartbeats 8000000 in
set_option maxRecDepth 100000 in
theorem rlook_en (h : ROk K w lk b o n cap D dp bud S) (p q t k lim deep : Int) (hm : mayE n p q t k = 0) (hl : (S.L.length : Int) ≤ 4294967296) (hs : S.s + 1 ≤ bud) (hd : ¬ dp < deep) (hi : inlineB t = false) (ht : tgtB D p q t k lim = true) (e4 : (t == 4) = false) (hd0 : 0 ≤ deep) (hd1 : deep ≤ 2147483648) (hh : Int) (hkn : vknown S.L (t, p - loadV D p q, k) = some hh) (h1 : 1 ≤ hh) (h2 : hh ≤ 2147483648) (hle : ¬ deep + hh - 1 ≤ dp) :
    Calls Try.prog 31 #[.pointer (some ⟨lk, 0, none⟩), .agg #[.int .i64 p, .int .i64 q, .int .i64 t, .int .i64 k], .int .i64 lim, .int .i64 deep] w (RLP K w lk b o n cap D dp bud (.error (S.s + 1, p, 61))) := by
  have hK := h.hK
  have hlk := h.lkt
  have hD := h.doc
  have HB := Lib.hid h.kb
  have hd' : decide (dp < deep) = false := by simpa using hd
  have HN : Hid ((vknown S.L (t, p - loadV D p q, k)).getD 0 = hh) := Lib.hid (by rw [hkn]; rfl)
  have w1 : IntKind.i64.wrap (deep + hh) = deep + hh := IntWalk.i64_in _ (by omega)
  have w2 : IntKind.i64.wrap (deep + hh - 1) = deep + hh - 1 := IntWalk.i64_in _ (by omega)
  have hp : decide (0 < hh) = true := by simp; omega
  clear hkn
  have hle' : decide (dp < deep + hh - 1) = true := by simp; omega
  go_enter Try.func31, Try.ntmps31
  go_upto_region 1 with fail
  refine wp_named (fun wn => ROk (fun i => K i ∨ i = w.heap.size) wn lk b o n cap D dp bud S ∧ RKept K w wn ∧ w.heap.size < wn.heap.size ∧ CL wn w.heap.size p q t k) ⟨h.enter (by (repeat' first | (with_reducible first | exact zb0 _ _ | assumption | refine zb1 ?_ ?_ _ | refine zb2 ?_ | refine zb3 ?_ _ | refine zb4 ?_ ?_ _ | refine zb5 (by assumption) ?_ ?_ | exact zb6 _) | omega | (simp <;> omega))) (fun i hi => by subst hi; simp), by (repeat' first | (with_reducible first | exact zr0 _ _ | assumption | refine zr1 hK ?_ ?_ _ | refine zr2 ?_ | refine zr3 hK ?_ _ | refine zr4 hK ?_ ?_ _ | refine zr5 (by assumption) ?_ | refine zr6 (by assumption) ?_ | refine zr7 hK (by assumption) ?_ ?_ | exact zb6 _) | omega | (simp <;> omega)), by simp, by go_simp, by go_simp, by go_simp, by go_simp⟩ ?_
  obtain ⟨X, hX0⟩ : ∃ X, w.heap.size = X := ⟨_, rfl⟩
  rw [hX0]
  have hXn : w.heap.size ≤ X := by omega
  rintro wn ⟨hvn, hkn, hX, z0, z1, z2, z3⟩
  go_wp2_with (first | (go_at_call 51; refine (rsteps_ok (hvn.keep (by (repeat' first | (with_reducible first | exact zb0 _ _ | assumption | refine zb1 ?_ ?_ _ | refine zb2 ?_ | refine zb3 ?_ _ | refine zb4 ?_ ?_ _ | refine zb5 (by assumption) ?_ ?_ | exact zb6 _) | omega | (simp <;> omega)))) 1 p (by omega) hs).mono ?_; rintro en w2 ⟨rfl, hv2, hk2⟩; have y1 := hv2.c1; have y7 := hv2.c7; have a0 := hk2.cell (x := X) (.inr rfl); have hz2 := hk2.size; have hm2 := hk2.mono (K := K) (fun i hi => Or.inl hi)) | (go_at_call 53; refine (rinline_any _ _).mono ?_; rintro e w1 ⟨rfl, rfl⟩) | (go_at_call 54; refine (rtgtOk hv2 p q t k lim hm (refB_of (mayE_zero hm).1 hi) ht).mono ?_; rintro en w4 ⟨rfl, hv4, hk4⟩; have d1 := hv4.c1; have d7 := hv4.c7; have hm4 := hk4.mono (K := K) (fun i hi => Or.inl hi); have d0 := hk4.cell (x := X) (.inr rfl); have hz4 := hk4.size) | (go_at_call 55; refine (uknown (S := { S with s := S.s + 1 }) hv4 hl t (p - loadV D p q) k).mono ?_; rw [HN.out]; rintro en w5 ⟨rfl, rfl⟩) | (go_at_call 52; refine (rtell_no (hv4.keep (by (repeat' first | (with_reducible first | exact zb0 _ _ | assumption | refine zb1 ?_ ?_ _ | refine zb2 ?_ | refine zb3 ?_ _ | refine zb4 ?_ ?_ _ | refine zb5 (by assumption) ?_ ?_ | exact zb6 _) | omega | (simp <;> omega)))) p 61 (by omega)).mono ?_; rintro en w3 ⟨rfl, hv3, hk3⟩; have b7 := hv3.c7; have hm3 := hk3.mono (K := K) (fun i hi => Or.inl hi); have b0 := hk3.cell (x := X) (.inr rfl)))
  go_returns
  exact ⟨⟨_, rfl⟩, hv3.less HB.out, by (repeat' first | (with_reducible first | exact zr0 _ _ | assumption | refine zr1 hK ?_ ?_ _ | refine zr2 ?_ | refine zr3 hK ?_ _ | refine zr4 hK ?_ ?_ _ | refine zr5 (by assumption) ?_ | refine zr6 (by assumption) ?_ | refine zr7 hK (by assumption) ?_ ?_ | exact zb6 _) | omega | (simp <;> omega))⟩
end
end Go.Proofs.Ytmpflnlajakibaa
