/- The reference's check: Look at a blob, at a vector. -/
import Derived.Test.YtmpflnlajakibaaChkc
namespace Go.Proofs.Ytmpflnlajakibaa
set_option linter.unusedVariables false
set_option linter.unusedSimpArgs false
set_option linter.unusedSectionVars false
open Go.RowKit
section
variable {K : Nat → Prop} {w w' : World} {lk b o n cap : Nat} {D : List UInt8} {dp bud : Int} {S : VS}
set_option maxHeartbeats 8000000 in
set_option maxRecDepth 100000 in
theorem rlook_f25 (h : ROk K w lk b o n cap D dp bud S) (p q k lim deep : Int) (hm : mayE n p q 25 k = 0) (hl : (S.L.length : Int) ≤ 4294967296) (hs : S.s + 1 ≤ bud) (hd : ¬ dp < deep) (hi : inlineB 25 = false) (ht : tgtB D p q 25 k lim = true) (hkn : vknown S.L (25, p - loadV D p q, k) = none) (he : findE D p q 25 k true = 0) (hl3 : (S.L.length : Int) ≤ 4294967296) (hKI : KInv (((25, p - loadV D p q, k), 1) :: S.L)) (hND : ND (((25, p - loadV D p q, k), 1) :: S.L)) :
    Calls Try.prog 31 #[.pointer (some ⟨lk, 0, none⟩), .agg #[.int .i64 p, .int .i64 q, .int .i64 25, .int .i64 k], .int .i64 lim, .int .i64 deep] w (RLP K w lk b o n cap D dp bud (.ok ({ s := S.s + 1, L := ((25, p - loadV D p q, k), 1) :: S.L, C := S.C }, 1))) := by
  have hK := h.hK
  have hlk := h.lkt
  have hD := h.doc
  have HB := Lib.hid h.kb
  have hd' : decide (dp < deep) = false := by simpa using hd
  have HN : Hid ((vknown S.L (25, p - loadV D p q, k)).getD 0 = 0) := Lib.hid (by rw [hkn]; rfl)
  clear hkn
  have HL3 := Lib.hid hl3
  have HKI := Lib.hid hKI
  have HND := Lib.hid hND
  clear hl3 hKI hND
  have HP := Lib.hid (fun W (hW : Doc W b o n cap D) => rtplace_any b o n cap D p q 25 k W hW (by omega))
  rw [he] at HP
  clear he
  go_enter Try.func31, Try.ntmps31
  go_upto_region 1 with fail
  refine wp_named (fun wn => ROk (fun i => K i ∨ i = w.heap.size) wn lk b o n cap D dp bud S ∧ RKept K w wn ∧ w.heap.size < wn.heap.size ∧ CL wn w.heap.size p q 25 k) ⟨h.enter (by (repeat' first | (with_reducible first | exact zb0 _ _ | assumption | refine zb1 ?_ ?_ _ | refine zb2 ?_ | refine zb3 ?_ _ | refine zb4 ?_ ?_ _ | refine zb5 (by assumption) ?_ ?_ | exact zb6 _) | omega | (simp <;> omega))) (fun i hi => by subst hi; simp), by (repeat' first | (with_reducible first | exact zr0 _ _ | assumption | refine zr1 hK ?_ ?_ _ | refine zr2 ?_ | refine zr3 hK ?_ _ | refine zr4 hK ?_ ?_ _ | refine zr5 (by assumption) ?_ | refine zr6 (by assumption) ?_ | refine zr7 hK (by assumption) ?_ ?_ | exact zb6 _) | omega | (simp <;> omega)), by simp, by go_simp, by go_simp, by go_simp, by go_simp⟩ ?_
  obtain ⟨X, hX0⟩ : ∃ X, w.heap.size = X := ⟨_, rfl⟩
  rw [hX0]
  have hXn : w.heap.size ≤ X := by omega
  rintro wn ⟨hvn, hkn, hX, z0, z1, z2, z3⟩
  go_upto_region 18 with (first | (go_at_call 51; refine (rsteps_ok (hvn.keep (by (repeat' first | (with_reducible first | exact zb0 _ _ | assumption | refine zb1 ?_ ?_ _ | refine zb2 ?_ | refine zb3 ?_ _ | refine zb4 ?_ ?_ _ | refine zb5 (by assumption) ?_ ?_ | exact zb6 _) | omega | (simp <;> omega)))) 1 p (by omega) hs).mono ?_; rintro en w2 ⟨rfl, hv2, hk2⟩; have y1 := hv2.c1; have y7 := hv2.c7; have a0 := hk2.cell (x := X) (.inr rfl); have hz2 := hk2.size; have hm2 := hk2.mono (K := K) (fun i hi => Or.inl hi)) | (go_at_call 53; refine (rinline_any _ _).mono ?_; rintro e w1 ⟨rfl, rfl⟩) | (go_at_call 54; refine (rtgtOk hv2 p q 25 k lim hm (refB_of (mayE_zero hm).1 hi) ht).mono ?_; rintro en w4 ⟨rfl, hv4, hk4⟩; have d1 := hv4.c1; have d7 := hv4.c7; have hm4 := hk4.mono (K := K) (fun i hi => Or.inl hi); have d0 := hk4.cell (x := X) (.inr rfl); have hz4 := hk4.size) | (go_at_call 55; refine (uknown (S := { S with s := S.s + 1 }) hv4 hl 25 (p - loadV D p q) k).mono ?_; rw [HN.out]; rintro en w5 ⟨rfl, rfl⟩))
  refine wp_named (fun wv => ROk (fun i => K i ∨ i = X) wv lk b o n cap D dp bud { S with s := S.s + 1 } ∧ RKept K w wv ∧ X < wv.heap.size ∧ CL wv X p q 25 k) ⟨hv4.keep (by (repeat' first | (with_reducible first | exact zb0 _ _ | assumption | refine zb1 ?_ ?_ _ | refine zb2 ?_ | refine zb3 ?_ _ | refine zb4 ?_ ?_ _ | refine zb5 (by assumption) ?_ ?_ | exact zb6 _) | omega | (simp <;> omega))), (hkn.trans hm2).trans hm4, by (first | omega | (simp at hz2 hz4 ⊢; omega)), by go_simp, by go_simp, by go_simp, by go_simp⟩ ?_
  clear hv4 hk4 hv2 hk2 hvn hkn hX z0 z1 z2 z3 a0 d0 d1 d7 y1 y7 hz2 hz4 hm2 hm4
  rintro wv ⟨hvv, hkv, hX, z0, z1, z2, z3⟩
  have z4 := hvv.c0
  have z7 := hvv.c7
  have hDv := hvv.doc
  have glv := hvv.lkt
  have hBv : w.heap.size ≤ wv.heap.size := hkv.size
  go_upto_region 29 with fail
  go_region_held3 (fun w' => w'.cell? ⟨X, 0, none⟩ = some (.int .i64 p) ∧ w'.cell? ⟨X, 1, none⟩ = some (.int .i64 q) ∧ w'.cell? ⟨X, 2, none⟩ = some (.int .i64 25) ∧ w'.cell? ⟨X, 3, none⟩ = some (.int .i64 k) ∧ w'.cell? ⟨lk, 0, none⟩ = some (.slice (some ⟨b, o, none⟩) n cap)) (first | (with_reducible exact ⟨z0, z1, z2, z3, z4⟩) | (refine ⟨?_, ?_, ?_, ?_, ?_⟩ <;> go_simp)) (((go_at_call 58; refine (HP.out _ (hDv.below (by (repeat' first | (with_reducible first | exact zb0 _ _ | assumption | refine zb1 ?_ ?_ _ | refine zb2 ?_ | refine zb3 ?_ _ | refine zb4 ?_ ?_ _ | refine zb5 (by assumption) ?_ ?_ | exact zb6 _) | omega | (simp <;> omega))))).mono ?_; rintro e w1 ⟨⟨fa, fl, rfl⟩, hb1⟩; obtain ⟨hc1, hf1, hl1⟩ := bcell hb1; (try simp only [World.size_drew, World.cell?_drew, World.frozen?_drew] at hc1 hf1 hl1); have hz1 := hb1.size; (try simp only [World.size_alloc, World.size_setCell, World.size_drew] at hz1)); (have gX : X < w1.heap.size := by omega); (have gl9 : lk < w1.heap.size := by omega)))
  go_upto_region 33 with fail
  refine wp_named (fun wr => ROk (fun i => K i ∨ i = X) wr lk b o n cap D dp bud { S with s := S.s + 1 } ∧ RKept K w wr ∧ X < wr.heap.size ∧ wr.cell? ⟨X, 2, none⟩ = some (.int .i64 25)) ⟨hvv.keep (by (repeat' first | (with_reducible first | exact zb0 _ _ | assumption | refine zb1 ?_ ?_ _ | refine zb2 ?_ | refine zb3 ?_ _ | refine zb4 ?_ ?_ _ | refine zb5 (by assumption) ?_ ?_ | exact zb6 _) | omega | (simp <;> omega))), by (repeat' first | (with_reducible first | exact zr0 _ _ | assumption | refine zr1 hK ?_ ?_ _ | refine zr2 ?_ | refine zr3 hK ?_ _ | refine zr4 hK ?_ ?_ _ | refine zr5 (by assumption) ?_ | refine zr6 (by assumption) ?_ | refine zr7 hK (by assumption) ?_ ?_ | exact zb6 _) | omega | (simp <;> omega)), by (first | omega | (simp; omega)), by go_simp⟩ ?_
  clear hvv hkv z0 z1 z2 z3 z4 z7 hDv glv hBv hX
  rintro wr ⟨hvr, hkr, hX, z2⟩
  have hBr : w.heap.size ≤ wr.heap.size := hkr.size
  have glr := hvr.lkt
  have n2 := World.new_ne _ _ z2
  obtain ⟨at_, lv, cv, hst⟩ := hvr.st
  have c4 : wr.cell? ⟨lk, 4, none⟩ = some lv := cell_of_row _ _ _ _ _ _ hst.row
  obtain ⟨iK, hiK, kz0, kz1, kz2⟩ := info_parts knownInfo
  have HiK := Lib.hid hiK
  have H63 := Lib.hid (show { S with s := S.s + 1 }.L.reverse.length + 1 ≤ maxLen by rw [List.length_reverse]; have := HL3.out; have := hvr.s1; have := hvr.bd; unfold maxLen; (try dsimp only at *); omega)
  have HBY := Lib.hid (show ({ S with s := S.s + 1 }.L.reverse.length + 1) * 32 ≤ 140737488355328 by rw [List.length_reverse]; have := HL3.out; have := hvr.s1; have := hvr.bd; (try dsimp only at *); omega)
  have hbA : Below wr.heap.size wr (wr.alloc (.cells #[.int .i64 25, .int .i64 (p - loadV D p q), .int .i64 k, .int .i64 1] 108)).drew := ((Below.refl _ _).alloc (Nat.le_refl _) _).drew
  have HBA := Lib.hid hbA
  have hoA := Lib.hid (hst.keep hbA).ol
  have hnA := Lib.hid (row_cells29 (w := (wr.alloc (.cells #[.int .i64 25, .int .i64 (p - loadV D p q), .int .i64 k, .int .i64 1] 108)).drew) (heap_alloc_new wr _))
  clear hbA hiK
  go_region_law (((refine step_append_where rfl (.tmp 139) (.tmp 146) 68 rfl 108 iK (.agg #[.int .i64 0, .int .i64 0, .int .i64 0, .int .i64 0]) 4 32 Try.underlying68 HiK.out kz0 kz1 kz2 rfl (by decide) lv _ _ rfl hoA.out ⟨wr.heap.size, 0, none⟩ 1 1 [.int .i64 25, .int .i64 (p - loadV D p q), .int .i64 k, .int .i64 1] rfl rfl hnA.out (four_one _ _ _ _) H63.out HBY.out ?_; intro v' w3 ho hg hwh; obtain ⟨A', n', c', rfl⟩ := owns_form ho; have hrow3 : w3.heap[lk]? = some (.cells (rkCells (.slice (some ⟨b, o, none⟩) n cap) dp bud { S with s := S.s + 1 }.s lv cv at_ 0) 71 (0, 0)) := (hg.block lk (by have := hst.lkt; simp; omega) (fun e => hst.n1.1 e.symm)).trans ((HBA.out.block lk hst.lkt).trans hst.row); have k4 : w3.cell? ⟨lk, 4, none⟩ = some lv := cell_of_row w3 lk 4 _ _ _ hrow3; have k4f := frozen_of_row w3 lk 4 _ _ hrow3; have hfi := hst.known HBA.out 25 (p - loadV D p q) k 1 ho hg (hwh.elim .inl (fun e => .inr (e.trans (by simp)))); have hfin := Lib.hid hfi.1; have hfk := Lib.hid (hkr.trans (hfi.2.mono (K := K) (fun i hi => Or.inl hi))); clear hfi ho hg hwh hrow3)))
  all_goals go_wp2_with fail
  all_goals go_returns
  all_goals exact ⟨rfl, ROk.less (K' := fun i => i = X) ⟨⟨at_, .slice A' n' c', cv, by rw [List.reverse_cons]; exact hfin.out⟩, hvr.s0, hvr.s1, hvr.bd, HKI.out, HND.out, hvr.cs⟩ HB.out, hfk.out⟩
set_option maxHeartbeats 8000000 in
set_option maxRecDepth 100000 in
theorem rlook_g25 (h : ROk K w lk b o n cap D dp bud S) (p q k lim deep : Int) (hm : mayE n p q 25 k = 0) (hl : (S.L.length : Int) ≤ 4294967296) (hs : S.s + 1 ≤ bud) (hd : ¬ dp < deep) (hi : inlineB 25 = false) (ht : tgtB D p q 25 k lim = true) (hkn : vknown S.L (25, p - loadV D p q, k) = none) (he : findE D p q 25 k true ≠ 0) :
    Calls Try.prog 31 #[.pointer (some ⟨lk, 0, none⟩), .agg #[.int .i64 p, .int .i64 q, .int .i64 25, .int .i64 k], .int .i64 lim, .int .i64 deep] w (RLP K w lk b o n cap D dp bud (.error (S.s + 1, p - loadV D p q, findE D p q 25 k true))) := by
  have hK := h.hK
  have hlk := h.lkt
  have hD := h.doc
  have HB := Lib.hid h.kb
  have hd' : decide (dp < deep) = false := by simpa using hd
  have HN : Hid ((vknown S.L (25, p - loadV D p q, k)).getD 0 = 0) := Lib.hid (by rw [hkn]; rfl)
  clear hkn
  have HP := Lib.hid (fun W (hW : Doc W b o n cap D) => rtplace_any b o n cap D p q 25 k W hW (by omega))
  have he' : (findE D p q 25 k true != 0) = true := by simpa using he
  have HE := Lib.hid he
  clear he
  go_enter Try.func31, Try.ntmps31
  go_upto_region 1 with fail
  refine wp_named (fun wn => ROk (fun i => K i ∨ i = w.heap.size) wn lk b o n cap D dp bud S ∧ RKept K w wn ∧ w.heap.size < wn.heap.size ∧ CL wn w.heap.size p q 25 k) ⟨h.enter (by (repeat' first | (with_reducible first | exact zb0 _ _ | assumption | refine zb1 ?_ ?_ _ | refine zb2 ?_ | refine zb3 ?_ _ | refine zb4 ?_ ?_ _ | refine zb5 (by assumption) ?_ ?_ | exact zb6 _) | omega | (simp <;> omega))) (fun i hi => by subst hi; simp), by (repeat' first | (with_reducible first | exact zr0 _ _ | assumption | refine zr1 hK ?_ ?_ _ | refine zr2 ?_ | refine zr3 hK ?_ _ | refine zr4 hK ?_ ?_ _ | refine zr5 (by assumption) ?_ | refine zr6 (by assumption) ?_ | refine zr7 hK (by assumption) ?_ ?_ | exact zb6 _) | omega | (simp <;> omega)), by simp, by go_simp, by go_simp, by go_simp, by go_simp⟩ ?_
  obtain ⟨X, hX0⟩ : ∃ X, w.heap.size = X := ⟨_, rfl⟩
  rw [hX0]
  have hXn : w.heap.size ≤ X := by omega
  rintro wn ⟨hvn, hkn, hX, z0, z1, z2, z3⟩
  go_upto_region 18 with (first | (go_at_call 51; refine (rsteps_ok (hvn.keep (by (repeat' first | (with_reducible first | exact zb0 _ _ | assumption | refine zb1 ?_ ?_ _ | refine zb2 ?_ | refine zb3 ?_ _ | refine zb4 ?_ ?_ _ | refine zb5 (by assumption) ?_ ?_ | exact zb6 _) | omega | (simp <;> omega)))) 1 p (by omega) hs).mono ?_; rintro en w2 ⟨rfl, hv2, hk2⟩; have y1 := hv2.c1; have y7 := hv2.c7; have a0 := hk2.cell (x := X) (.inr rfl); have hz2 := hk2.size; have hm2 := hk2.mono (K := K) (fun i hi => Or.inl hi)) | (go_at_call 53; refine (rinline_any _ _).mono ?_; rintro e w1 ⟨rfl, rfl⟩) | (go_at_call 54; refine (rtgtOk hv2 p q 25 k lim hm (refB_of (mayE_zero hm).1 hi) ht).mono ?_; rintro en w4 ⟨rfl, hv4, hk4⟩; have d1 := hv4.c1; have d7 := hv4.c7; have hm4 := hk4.mono (K := K) (fun i hi => Or.inl hi); have d0 := hk4.cell (x := X) (.inr rfl); have hz4 := hk4.size) | (go_at_call 55; refine (uknown (S := { S with s := S.s + 1 }) hv4 hl 25 (p - loadV D p q) k).mono ?_; rw [HN.out]; rintro en w5 ⟨rfl, rfl⟩))
  refine wp_named (fun wv => ROk (fun i => K i ∨ i = X) wv lk b o n cap D dp bud { S with s := S.s + 1 } ∧ RKept K w wv ∧ X < wv.heap.size ∧ CL wv X p q 25 k) ⟨hv4.keep (by (repeat' first | (with_reducible first | exact zb0 _ _ | assumption | refine zb1 ?_ ?_ _ | refine zb2 ?_ | refine zb3 ?_ _ | refine zb4 ?_ ?_ _ | refine zb5 (by assumption) ?_ ?_ | exact zb6 _) | omega | (simp <;> omega))), (hkn.trans hm2).trans hm4, by (first | omega | (simp at hz2 hz4 ⊢; omega)), by go_simp, by go_simp, by go_simp, by go_simp⟩ ?_
  clear hv4 hk4 hv2 hk2 hvn hkn hX z0 z1 z2 z3 a0 d0 d1 d7 y1 y7 hz2 hz4 hm2 hm4
  rintro wv ⟨hvv, hkv, hX, z0, z1, z2, z3⟩
  have z4 := hvv.c0
  have z7 := hvv.c7
  have hDv := hvv.doc
  have glv := hvv.lkt
  have hBv : w.heap.size ≤ wv.heap.size := hkv.size
  go_upto_region 29 with fail
  go_region_held3 (fun w' => w'.cell? ⟨X, 0, none⟩ = some (.int .i64 p) ∧ w'.cell? ⟨X, 1, none⟩ = some (.int .i64 q) ∧ w'.cell? ⟨X, 2, none⟩ = some (.int .i64 25) ∧ w'.cell? ⟨X, 3, none⟩ = some (.int .i64 k) ∧ w'.cell? ⟨lk, 0, none⟩ = some (.slice (some ⟨b, o, none⟩) n cap)) (first | (with_reducible exact ⟨z0, z1, z2, z3, z4⟩) | (refine ⟨?_, ?_, ?_, ?_, ?_⟩ <;> go_simp)) (((go_at_call 58; refine (HP.out _ (hDv.below (by (repeat' first | (with_reducible first | exact zb0 _ _ | assumption | refine zb1 ?_ ?_ _ | refine zb2 ?_ | refine zb3 ?_ _ | refine zb4 ?_ ?_ _ | refine zb5 (by assumption) ?_ ?_ | exact zb6 _) | omega | (simp <;> omega))))).mono ?_; rintro e w1 ⟨⟨fa, fl, rfl⟩, hb1⟩; obtain ⟨hc1, hf1, hl1⟩ := bcell hb1; (try simp only [World.size_drew, World.cell?_drew, World.frozen?_drew] at hc1 hf1 hl1); have hz1 := hb1.size; (try simp only [World.size_alloc, World.size_setCell, World.size_drew] at hz1)); (have gX : X < w1.heap.size := by omega); (have gl9 : lk < w1.heap.size := by omega)))
  go_wp2_with (go_at_call 52; refine (rtell_no (hvv.keep (by (repeat' first | (with_reducible first | exact zb0 _ _ | assumption | refine zb1 ?_ ?_ _ | refine zb2 ?_ | refine zb3 ?_ _ | refine zb4 ?_ ?_ _ | refine zb5 (by assumption) ?_ ?_ | exact zb6 _) | omega | (simp <;> omega)))) (p - loadV D p q) _ HE.out).mono ?_; rintro en w3 ⟨rfl, hv3, hk3⟩; have b7 := hv3.c7; have hm3 := hk3.mono (K := K) (fun i hi => Or.inl hi); have b0 := hk3.cell (x := X) (.inr rfl))
  go_returns
  exact ⟨⟨_, rfl⟩, hv3.less HB.out, by (repeat' first | (with_reducible first | exact zr0 _ _ | assumption | refine zr1 hK ?_ ?_ _ | refine zr2 ?_ | refine zr3 hK ?_ _ | refine zr4 hK ?_ ?_ _ | refine zr5 (by assumption) ?_ | refine zr6 (by assumption) ?_ | refine zr7 hK (by assumption) ?_ ?_ | exact zb6 _) | omega | (simp <;> omega))⟩
set_option maxHeartbeats 8000000 in
set_option maxRecDepth 100000 in
theorem rlook_f (h : ROk K w lk b o n cap D dp bud S) (p q t k lim deep : Int) (hm : mayE n p q t k = 0) (hl : (S.L.length : Int) ≤ 4294967296) (hs : S.s + 1 ≤ bud) (hd : ¬ dp < deep) (hi : inlineB t = false) (ht : tgtB D p q t k lim = true) (hkn : vknown S.L (t, p - loadV D p q, k) = none)  (e4 : (t == 4) = false) (e5 : (t == 5) = false) (e6 : (t == 6) = false) (e7 : (t == 7) = false) (e25 : (t == 25) = false) (S1 S3 : VS) (hh : Int) (hS1 : S1 = { S with s := S.s + 1 }) (HV0 : HypRVec lk b o n cap D dp bud S1 p q t k (p - loadV D p q) deep (.ok (S3, hh))) (hl3 : (S3.L.length : Int) ≤ 2 * S3.s) (hKI : KInv (((t, p - loadV D p q, k), hh) :: S3.L)) (hND : ND (((t, p - loadV D p q, k), hh) :: S3.L)) :
    Calls Try.prog 31 #[.pointer (some ⟨lk, 0, none⟩), .agg #[.int .i64 p, .int .i64 q, .int .i64 t, .int .i64 k], .int .i64 lim, .int .i64 deep] w (RLP K w lk b o n cap D dp bud (.ok ({ S3 with L := ((t, p - loadV D p q, k), hh) :: S3.L }, hh))) := by
  have hK := h.hK
  have hlk := h.lkt
  have hD := h.doc
  have HB := Lib.hid h.kb
  have hd' : decide (dp < deep) = false := by simpa using hd
  have HN : Hid ((vknown S.L (t, p - loadV D p q, k)).getD 0 = 0) := Lib.hid (by rw [hkn]; rfl)
  clear hkn
  have HL3 := Lib.hid hl3
  have HKI := Lib.hid hKI
  have HND := Lib.hid hND
  clear hl3 hKI hND
  subst hS1
  have HV := Lib.hid HV0
  clear HV0
  go_enter Try.func31, Try.ntmps31
  go_upto_region 1 with fail
  refine wp_named (fun wn => ROk (fun i => K i ∨ i = w.heap.size) wn lk b o n cap D dp bud S ∧ RKept K w wn ∧ w.heap.size < wn.heap.size ∧ CL wn w.heap.size p q t k) ⟨h.enter (by (repeat' first | (with_reducible first | exact zb0 _ _ | assumption | refine zb1 ?_ ?_ _ | refine zb2 ?_ | refine zb3 ?_ _ | refine zb4 ?_ ?_ _ | refine zb5 (by assumption) ?_ ?_ | exact zb6 _) | omega | (simp <;> omega))) (fun i hi => by subst hi; simp), by (repeat' first | (with_reducible first | exact zr0 _ _ | assumption | refine zr1 hK ?_ ?_ _ | refine zr2 ?_ | refine zr3 hK ?_ _ | refine zr4 hK ?_ ?_ _ | refine zr5 (by assumption) ?_ | refine zr6 (by assumption) ?_ | refine zr7 hK (by assumption) ?_ ?_ | exact zb6 _) | omega | (simp <;> omega)), by simp, by go_simp, by go_simp, by go_simp, by go_simp⟩ ?_
  obtain ⟨X, hX0⟩ : ∃ X, w.heap.size = X := ⟨_, rfl⟩
  rw [hX0]
  have hXn : w.heap.size ≤ X := by omega
  rintro wn ⟨hvn, hkn, hX, z0, z1, z2, z3⟩
  go_upto_region 18 with (first | (go_at_call 51; refine (rsteps_ok (hvn.keep (by (repeat' first | (with_reducible first | exact zb0 _ _ | assumption | refine zb1 ?_ ?_ _ | refine zb2 ?_ | refine zb3 ?_ _ | refine zb4 ?_ ?_ _ | refine zb5 (by assumption) ?_ ?_ | exact zb6 _) | omega | (simp <;> omega)))) 1 p (by omega) hs).mono ?_; rintro en w2 ⟨rfl, hv2, hk2⟩; have y1 := hv2.c1; have y7 := hv2.c7; have a0 := hk2.cell (x := X) (.inr rfl); have hz2 := hk2.size; have hm2 := hk2.mono (K := K) (fun i hi => Or.inl hi)) | (go_at_call 53; refine (rinline_any _ _).mono ?_; rintro e w1 ⟨rfl, rfl⟩) | (go_at_call 54; refine (rtgtOk hv2 p q t k lim hm (refB_of (mayE_zero hm).1 hi) ht).mono ?_; rintro en w4 ⟨rfl, hv4, hk4⟩; have d1 := hv4.c1; have d7 := hv4.c7; have hm4 := hk4.mono (K := K) (fun i hi => Or.inl hi); have d0 := hk4.cell (x := X) (.inr rfl); have hz4 := hk4.size) | (go_at_call 55; refine (uknown (S := { S with s := S.s + 1 }) hv4 hl t (p - loadV D p q) k).mono ?_; rw [HN.out]; rintro en w5 ⟨rfl, rfl⟩))
  refine wp_named (fun wv => ROk (fun i => K i ∨ i = X) wv lk b o n cap D dp bud { S with s := S.s + 1 } ∧ RKept K w wv ∧ X < wv.heap.size ∧ CL wv X p q t k) ⟨hv4.keep (by (repeat' first | (with_reducible first | exact zb0 _ _ | assumption | refine zb1 ?_ ?_ _ | refine zb2 ?_ | refine zb3 ?_ _ | refine zb4 ?_ ?_ _ | refine zb5 (by assumption) ?_ ?_ | exact zb6 _) | omega | (simp <;> omega))), (hkn.trans hm2).trans hm4, by (first | omega | (simp at hz2 hz4 ⊢; omega)), by go_simp, by go_simp, by go_simp, by go_simp⟩ ?_
  clear hv4 hk4 hv2 hk2 hvn hkn hX z0 z1 z2 z3 a0 d0 d1 d7 y1 y7 hz2 hz4 hm2 hm4
  rintro wv ⟨hvv, hkv, hX, z0, z1, z2, z3⟩
  have z4 := hvv.c0
  have z7 := hvv.c7
  have hDv := hvv.doc
  have glv := hvv.lkt
  have hBv : w.heap.size ≤ wv.heap.size := hkv.size
  go_upto_region 33 with (go_at_call 59; refine (HV.out _ _ (hvv.keep (by (repeat' first | (with_reducible first | exact zb0 _ _ | assumption | refine zb1 ?_ ?_ _ | refine zb2 ?_ | refine zb3 ?_ _ | refine zb4 ?_ ?_ _ | refine zb5 (by assumption) ?_ ?_ | exact zb6 _) | omega | (simp <;> omega))))).mono ?_; rintro en w2 ⟨rfl, hv2, hk2⟩; have y7 := hv2.c7; have a0 := hk2.cell (x := X) (.inr rfl); have hz2 := hk2.size; have hm2 := hk2.mono (K := K) (fun i hi => Or.inl hi))
  refine wp_named (fun wr => ROk (fun i => K i ∨ i = X) wr lk b o n cap D dp bud S3 ∧ RKept K w wr ∧ X < wr.heap.size ∧ wr.cell? ⟨X, 2, none⟩ = some (.int .i64 t)) ⟨hv2.keep (by (repeat' first | (with_reducible first | exact zb0 _ _ | assumption | refine zb1 ?_ ?_ _ | refine zb2 ?_ | refine zb3 ?_ _ | refine zb4 ?_ ?_ _ | refine zb5 (by assumption) ?_ ?_ | exact zb6 _) | omega | (simp <;> omega))), by (repeat' first | (with_reducible first | exact zr0 _ _ | assumption | refine zr1 hK ?_ ?_ _ | refine zr2 ?_ | refine zr3 hK ?_ _ | refine zr4 hK ?_ ?_ _ | refine zr5 (by assumption) ?_ | refine zr6 (by assumption) ?_ | refine zr7 hK (by assumption) ?_ ?_ | exact zb6 _) | omega | (simp <;> omega)), by (first | omega | (simp; omega)), by go_simp⟩ ?_
  clear hvv hkv z0 z1 z2 z3 z4 z7 hDv glv hBv hX
  rintro wr ⟨hvr, hkr, hX, z2⟩
  have hBr : w.heap.size ≤ wr.heap.size := hkr.size
  have glr := hvr.lkt
  have n2 := World.new_ne _ _ z2
  obtain ⟨at_, lv, cv, hst⟩ := hvr.st
  have c4 : wr.cell? ⟨lk, 4, none⟩ = some lv := cell_of_row _ _ _ _ _ _ hst.row
  obtain ⟨iK, hiK, kz0, kz1, kz2⟩ := info_parts knownInfo
  have HiK := Lib.hid hiK
  have H63 := Lib.hid (show S3.L.reverse.length + 1 ≤ maxLen by rw [List.length_reverse]; have := HL3.out; have := hvr.s1; have := hvr.bd; unfold maxLen; (try dsimp only at *); omega)
  have HBY := Lib.hid (show (S3.L.reverse.length + 1) * 32 ≤ 140737488355328 by rw [List.length_reverse]; have := HL3.out; have := hvr.s1; have := hvr.bd; (try dsimp only at *); omega)
  have hbA : Below wr.heap.size wr (wr.alloc (.cells #[.int .i64 t, .int .i64 (p - loadV D p q), .int .i64 k, .int .i64 hh] 108)).drew := ((Below.refl _ _).alloc (Nat.le_refl _) _).drew
  have HBA := Lib.hid hbA
  have hoA := Lib.hid (hst.keep hbA).ol
  have hnA := Lib.hid (row_cells29 (w := (wr.alloc (.cells #[.int .i64 t, .int .i64 (p - loadV D p q), .int .i64 k, .int .i64 hh] 108)).drew) (heap_alloc_new wr _))
  clear hbA hiK
  go_region_law (((refine step_append_where rfl (.tmp 139) (.tmp 146) 68 rfl 108 iK (.agg #[.int .i64 0, .int .i64 0, .int .i64 0, .int .i64 0]) 4 32 Try.underlying68 HiK.out kz0 kz1 kz2 rfl (by decide) lv _ _ rfl hoA.out ⟨wr.heap.size, 0, none⟩ 1 1 [.int .i64 t, .int .i64 (p - loadV D p q), .int .i64 k, .int .i64 hh] rfl rfl hnA.out (four_one _ _ _ _) H63.out HBY.out ?_; intro v' w3 ho hg hwh; obtain ⟨A', n', c', rfl⟩ := owns_form ho; have hrow3 : w3.heap[lk]? = some (.cells (rkCells (.slice (some ⟨b, o, none⟩) n cap) dp bud S3.s lv cv at_ 0) 71 (0, 0)) := (hg.block lk (by have := hst.lkt; simp; omega) (fun e => hst.n1.1 e.symm)).trans ((HBA.out.block lk hst.lkt).trans hst.row); have k4 : w3.cell? ⟨lk, 4, none⟩ = some lv := cell_of_row w3 lk 4 _ _ _ hrow3; have k4f := frozen_of_row w3 lk 4 _ _ hrow3; have hfi := hst.known HBA.out t (p - loadV D p q) k hh ho hg (hwh.elim .inl (fun e => .inr (e.trans (by simp)))); have hfin := Lib.hid hfi.1; have hfk := Lib.hid (hkr.trans (hfi.2.mono (K := K) (fun i hi => Or.inl hi))); clear hfi ho hg hwh hrow3)))
  all_goals go_wp2_with fail
  all_goals go_returns
  all_goals exact ⟨rfl, ROk.less (K' := fun i => i = X) ⟨⟨at_, .slice A' n' c', cv, by rw [List.reverse_cons]; exact hfin.out⟩, hvr.s0, hvr.s1, hvr.bd, HKI.out, HND.out, hvr.cs⟩ HB.out, hfk.out⟩
set_option maxHeartbeats 8000000 in
set_option maxRecDepth 100000 in
theorem rlook_g (h : ROk K w lk b o n cap D dp bud S) (p q t k lim deep : Int) (hm : mayE n p q t k = 0) (hl : (S.L.length : Int) ≤ 4294967296) (hs : S.s + 1 ≤ bud) (hd : ¬ dp < deep) (hi : inlineB t = false) (ht : tgtB D p q t k lim = true) (hkn : vknown S.L (t, p - loadV D p q, k) = none)  (e4 : (t == 4) = false) (e5 : (t == 5) = false) (e6 : (t == 6) = false) (e7 : (t == 7) = false) (e25 : (t == 25) = false) (S1 : VS) (s' a' e' : Int) (hS1 : S1 = { S with s := S.s + 1 }) (HV0 : HypRVec lk b o n cap D dp bud S1 p q t k (p - loadV D p q) deep (.error (s', a', e'))) :
    Calls Try.prog 31 #[.pointer (some ⟨lk, 0, none⟩), .agg #[.int .i64 p, .int .i64 q, .int .i64 t, .int .i64 k], .int .i64 lim, .int .i64 deep] w (RLP K w lk b o n cap D dp bud (.error (s', a', e'))) := by
  have hK := h.hK
  have hlk := h.lkt
  have hD := h.doc
  have HB := Lib.hid h.kb
  have hd' : decide (dp < deep) = false := by simpa using hd
  have HN : Hid ((vknown S.L (t, p - loadV D p q, k)).getD 0 = 0) := Lib.hid (by rw [hkn]; rfl)
  clear hkn
  subst hS1
  have HV := Lib.hid HV0
  clear HV0
  go_enter Try.func31, Try.ntmps31
  go_upto_region 1 with fail
  refine wp_named (fun wn => ROk (fun i => K i ∨ i = w.heap.size) wn lk b o n cap D dp bud S ∧ RKept K w wn ∧ w.heap.size < wn.heap.size ∧ CL wn w.heap.size p q t k) ⟨h.enter (by (repeat' first | (with_reducible first | exact zb0 _ _ | assumption | refine zb1 ?_ ?_ _ | refine zb2 ?_ | refine zb3 ?_ _ | refine zb4 ?_ ?_ _ | refine zb5 (by assumption) ?_ ?_ | exact zb6 _) | omega | (simp <;> omega))) (fun i hi => by subst hi; simp), by (repeat' first | (with_reducible first | exact zr0 _ _ | assumption | refine zr1 hK ?_ ?_ _ | refine zr2 ?_ | refine zr3 hK ?_ _ | refine zr4 hK ?_ ?_ _ | refine zr5 (by assumption) ?_ | refine zr6 (by assumption) ?_ | refine zr7 hK (by assumption) ?_ ?_ | exact zb6 _) | omega | (simp <;> omega)), by simp, by go_simp, by go_simp, by go_simp, by go_simp⟩ ?_
  obtain ⟨X, hX0⟩ : ∃ X, w.heap.size = X := ⟨_, rfl⟩
  rw [hX0]
  have hXn : w.heap.size ≤ X := by omega
  rintro wn ⟨hvn, hkn, hX, z0, z1, z2, z3⟩
  go_upto_region 18 with (first | (go_at_call 51; refine (rsteps_ok (hvn.keep (by (repeat' first | (with_reducible first | exact zb0 _ _ | assumption | refine zb1 ?_ ?_ _ | refine zb2 ?_ | refine zb3 ?_ _ | refine zb4 ?_ ?_ _ | refine zb5 (by assumption) ?_ ?_ | exact zb6 _) | omega | (simp <;> omega)))) 1 p (by omega) hs).mono ?_; rintro en w2 ⟨rfl, hv2, hk2⟩; have y1 := hv2.c1; have y7 := hv2.c7; have a0 := hk2.cell (x := X) (.inr rfl); have hz2 := hk2.size; have hm2 := hk2.mono (K := K) (fun i hi => Or.inl hi)) | (go_at_call 53; refine (rinline_any _ _).mono ?_; rintro e w1 ⟨rfl, rfl⟩) | (go_at_call 54; refine (rtgtOk hv2 p q t k lim hm (refB_of (mayE_zero hm).1 hi) ht).mono ?_; rintro en w4 ⟨rfl, hv4, hk4⟩; have d1 := hv4.c1; have d7 := hv4.c7; have hm4 := hk4.mono (K := K) (fun i hi => Or.inl hi); have d0 := hk4.cell (x := X) (.inr rfl); have hz4 := hk4.size) | (go_at_call 55; refine (uknown (S := { S with s := S.s + 1 }) hv4 hl t (p - loadV D p q) k).mono ?_; rw [HN.out]; rintro en w5 ⟨rfl, rfl⟩))
  refine wp_named (fun wv => ROk (fun i => K i ∨ i = X) wv lk b o n cap D dp bud { S with s := S.s + 1 } ∧ RKept K w wv ∧ X < wv.heap.size ∧ CL wv X p q t k) ⟨hv4.keep (by (repeat' first | (with_reducible first | exact zb0 _ _ | assumption | refine zb1 ?_ ?_ _ | refine zb2 ?_ | refine zb3 ?_ _ | refine zb4 ?_ ?_ _ | refine zb5 (by assumption) ?_ ?_ | exact zb6 _) | omega | (simp <;> omega))), (hkn.trans hm2).trans hm4, by (first | omega | (simp at hz2 hz4 ⊢; omega)), by go_simp, by go_simp, by go_simp, by go_simp⟩ ?_
  clear hv4 hk4 hv2 hk2 hvn hkn hX z0 z1 z2 z3 a0 d0 d1 d7 y1 y7 hz2 hz4 hm2 hm4
  rintro wv ⟨hvv, hkv, hX, z0, z1, z2, z3⟩
  have z4 := hvv.c0
  have z7 := hvv.c7
  have hDv := hvv.doc
  have glv := hvv.lkt
  have hBv : w.heap.size ≤ wv.heap.size := hkv.size
  go_wp2_with (((go_at_call 59; refine (HV.out _ _ (hvv.keep (by (repeat' first | (with_reducible first | exact zb0 _ _ | assumption | refine zb1 ?_ ?_ _ | refine zb2 ?_ | refine zb3 ?_ _ | refine zb4 ?_ ?_ _ | refine zb5 (by assumption) ?_ ?_ | exact zb6 _) | omega | (simp <;> omega))))).mono ?_; rintro en w2 ⟨⟨l, rfl⟩, hv2, hk2⟩; have y7 := hv2.c7; have a0 := hk2.cell (x := X) (.inr rfl); have hz2 := hk2.size; have hm2 := hk2.mono (K := K) (fun i hi => Or.inl hi)); (have hne : (e' == 0) = false := by simpa using hv2.1)))
  go_returns
  exact ⟨⟨_, rfl⟩, hv2.less HB.out, by (repeat' first | (with_reducible first | exact zr0 _ _ | assumption | refine zr1 hK ?_ ?_ _ | refine zr2 ?_ | refine zr3 hK ?_ _ | refine zr4 hK ?_ ?_ _ | refine zr5 (by assumption) ?_ | refine zr6 (by assumption) ?_ | refine zr7 hK (by assumption) ?_ ?_ | exact zb6 _) | omega | (simp <;> omega))⟩
end
end Go.Proofs.Ytmpflnlajakibaa
