/- The walks of parse.reader's members and its closure. -/
import Derived.Test.YtccmhhmdenfecaaGreatDoorJg
import Derived.Test.YtccmhhmdenfecaaGreatDoorEg
namespace Go.Proofs.YtccmhhmdenfecaaGreatDoor
set_option linter.unusedVariables false
set_option linter.unusedSimpArgs false
open Go.RowKit Go.Shelf Go.Maps
open Go.ChangeMaps (setBlock)
def keyX (l : List UInt8) : Int := if (0 : UInt8) ∈ l then 70 else 0
theorem keyx_any (l : List UInt8) (w : World) : Calls Tryz.prog 92 #[strV l] w fun e w' => e = .returned (.int .i64 (keyX l)) ∧ w = w' := by
  have HI := Lib.hid (Tryz.strings_IndexByte ⟨l.toArray⟩ 0 w)
  have hz := ib_zero l
  unfold strV
  by_cases h : (0 : UInt8) ∈ l
  · have h0 : 0 ≤ Lib.indexByte l 0 := by simpa [h] using hz
    clear hz
    go_enter Tryz.func92, Tryz.ntmps92
    go_wp2_with (go_at_call 79; refine HI.out.mono ?_; rintro e w1 ⟨rfl, rfl⟩)
    go_ret
    unfold keyX
    rw [if_pos h]
    exact ⟨rfl, rfl⟩
  · have h0 : ¬ 0 ≤ Lib.indexByte l 0 := by simpa [h] using hz
    clear hz
    go_enter Tryz.func92, Tryz.ntmps92
    go_wp2_with (go_at_call 79; refine HI.out.mono ?_; rintro e w1 ⟨rfl, rfl⟩)
    go_ret
    unfold keyX
    rw [if_neg h]
    exact ⟨rfl, rfl⟩
open Classical in
/-- The keys had, as a map of counts. -/
noncomputable def hadI : List (List UInt8) → Value → Option Value
  | [], _ => none
  | k :: r, y => if y = strV k then some (.int .i64 1) else hadI r y
theorem hadI_none (k : List UInt8) : ∀ had : List (List UInt8), k ∉ had → hadI had (strV k) = none
  | [], _ => rfl
  | x :: r, h => by
    rw [hadI, if_neg (fun e => h (by rw [strV_inj e]; simp)), hadI_none k r (fun e => h (by simp [e]))]
theorem hadI_some (k : List UInt8) : ∀ had : List (List UInt8), k ∈ had → hadI had (strV k) = some (.int .i64 1)
  | [], h => by cases h
  | x :: r, h => by
    rw [hadI]
    by_cases e : k = x
    · rw [if_pos (by rw [e])]
    · rw [if_neg (fun q => e (strV_inj q)), hadI_some k r (by rcases List.mem_cons.1 h with h | h; exact absurd h e; exact h)]
theorem hadI_snoc (k : List UInt8) : ∀ had : List (List UInt8), hadI (had ++ [k]) = hadI (k :: had)
  | [] => rfl
  | x :: r => by
    funext y
    rw [List.cons_append, hadI, hadI_snoc k r, hadI, hadI, hadI]
    by_cases h1 : y = strV x <;> by_cases h2 : y = strV k <;> simp [h1, h2]
theorem zero_int (w : World) : (zeroValue 3).run Tryz.prog w = .ok (.int .i64 0) w := by kernel_rfl
theorem hadI_look {w : World} {M : Nat} {F : Value → Option Value} (h : MapIs Tryz.prog 9 w M F) {k : List UInt8} (hk : k.length ≤ 9223372036854775807) :
    (Instr.lookup 142 (.map (some M)) (strV k) false).run Tryz.prog w = .ok ((F (strV k)).getD (.int .i64 0)) w := by
  have := h.look false (string_keyed Tryz.underlying9) (t := 142) (el := 3) Tryz.underlying142 (zero_int w) (had_key hk)
  rw [this]
  rfl
open Classical in
noncomputable def putF (k : List UInt8) (v : Value) (F : Value → Option Value) : Value → Option Value := fun y => if y = strV k then some v else F y
theorem putF_at (k : List UInt8) (v : Value) (F : Value → Option Value) : putF k v F (strV k) = some v := by unfold putF; rw [if_pos rfl]
theorem hadI_put {w : World} {M : Nat} {F : Value → Option Value} (h : MapIs Tryz.prog 9 w M F) {k : List UInt8} (hk : k.length ≤ 9223372036854775807) (v : Value) :
    ∃ o, (Instr.mapUpdate 142 (.map (some M)) (strV k) v).run Tryz.prog w = .ok () (setBlock w M o) ∧ MapIs Tryz.prog 9 (setBlock w M o) M (putF k v F) := by
  obtain ⟨o, h1, h2⟩ := h.update (string_keyed Tryz.underlying9) (t := 142) (el := 3) Tryz.underlying142 (val := v) (had_key hk)
  exact ⟨o, h1, h2⟩
theorem Tch.setBlockNew {B : Nat} {T : List Nat} {a w : World} (h : Tch B T a w) {m : Nat} (hm : B ≤ m) (o : Obj) : Tch B T a (Go.ChangeMaps.setBlock w m o) :=
  h.trans ⟨rfl, rfl, rfl, by rw [size_setBlock]; exact Nat.le_refl _, fun i hi _ => heap_setBlock_other w m i o (by omega)⟩
theorem lt_cell {w : World} {b o : Nat} {v : Value} (h : w.cell? ⟨b, o, none⟩ = some v) : b < w.heap.size := (cell_spot h).2
/-- What a map's closure keeps. -/
structure MJ (O Lb M : Nat) (E : List (Nat × Obj)) (ks : List (List UInt8)) (acc : List DT) (w : World) : Prop where
  j : LJx 17 O Lb E ks acc w
  m : MapIs Tryz.prog 9 w M (hadI ks)
  n : ks.length = acc.length
theorem MJ.ok {R O Lb M : Nat} {E : List (Nat × Obj)} (hR : R < Lb ∧ R < O ∧ ∀ p ∈ E, R < p.1) (hM : R < M) (ks : List (List UInt8)) (acc : List DT) (W W' : World) (ht : Touch [R] W W') (h : MJ O Lb M E ks acc W) : MJ O Lb M E ks acc W' :=
  ⟨LJx.ok hR ks acc W W' ht h.j, h.m.same (ht.block M h.m.lt (by simp; omega)), h.n⟩
/-- One key more. -/
theorem Kids.pushK {w w3 : World} {B : Nat} {ks : List (List UInt8)} {l : List DT} {kv lv kv' : Value} {xs : List Value} {bl : List Nat} {k : List UInt8} (h : Kids w B ks l kv lv xs bl) (hB : B ≤ w.heap.size)
    (hg : w.grownBy w3 kv.ownBlock) (ho : w3.ownsRow 0 9 1 kv' (ks.length + 1) (ks.map strV ++ [strV k])) (hw : kv'.ownBlock = kv.ownBlock ∨ kv'.ownBlock = some w.heap.size) : Kids w3 B (ks ++ [k]) l kv' lv xs bl := by
  have hlt := h.lt
  have hnd := h.nd
  rw [List.nodup_append] at hnd
  obtain ⟨n1, n2, n3⟩ := hnd
  have hold : ∀ i ∈ blkL lv ++ bl, w3.heap[i]? = w.heap[i]? := fun i hi => hg.block i (hlt i (by simp [List.mem_append.1 hi])) (fun e => n3 i (mem_blk.2 e.symm) i hi rfl)
  have hv' : ∀ i, kv'.ownBlock = some i → kv.ownBlock = some i ∨ i = w.heap.size := fun i hi => by
    rcases hw with hw | hw
    · rw [hw] at hi; exact .inl hi
    · rw [hw] at hi; injection hi with hi; exact .inr hi.symm
  refine ⟨?_, own_same2 h.r fun i hi => hold i (by simp [hi]), NReps.same _ _ _ h.n fun i hi => hold i (by simp [hi]), ?_, ?_⟩
  · rw [List.length_append, List.map_append]
    exact ho
  · rw [List.nodup_append]
    refine ⟨?_, n2, ?_⟩
    · unfold blkL; cases kv'.ownBlock <;> simp
    · intro i hi j hj e
      subst e
      rcases hv' i (mem_blk.1 hi) with x | x
      · exact n3 i (mem_blk.2 x) i hj rfl
      · have := hlt i (by simp [List.mem_append.1 hj]); omega
  · intro i hi
    rcases List.mem_append.1 hi with hi | hi
    · rcases hv' i (mem_blk.1 hi) with x | x
      · exact h.ge i (by simp [mem_blk, x])
      · omega
    · exact h.ge i (by simp [List.mem_append.1 hi])
def lightM (R A0 A1 O : Nat) (dp : Int) (k : List UInt8) (kv lv : Value) (t : Tmp) : Option Value := match t with
  | 0 => some (.pointer (some ⟨A0, 0, none⟩))
  | 2 => some (.pointer (some ⟨O, 0, none⟩))
  | 3 => some (.pointer (some ⟨A1, 0, none⟩))
  | 4 => some (.string ⟨k.toArray⟩)
  | 37 => some (.pointer (some ⟨O, 4, none⟩))
  | 38 => some kv
  | 39 => some (.string ⟨k.toArray⟩)
  | 42 => some (.pointer (some ⟨O, 5, none⟩))
  | 43 => some lv
  | 44 => some (.pointer (some ⟨R, 0, none⟩))
  | 45 => some (.int .i64 dp)
  | 46 => some (.int .i64 (dp + 1))
  | 50 => some (.pointer (some ⟨O, 4, none⟩))
  | 51 => some (.pointer (some ⟨O, 5, none⟩))
  | _ => none
/-- Ahead of the value. -/
def StMa (R O Lb : Nat) (s : List UInt8) (tk : Tok) (many : Int) (k : List UInt8) (ks : List (List UInt8)) (acc : List DT) (kv lv : Value) (xs : List Value) (bl : List Nat) (D : Nat → Bool) (ev : Tmp → Value) (w : World) : Prop :=
  D 10 = false ∧ D 11 = false ∧ D 12 = false ∧ D 14 = false ∧ D 16 = false ∧ PRow w R s tk many ∧ w.heap[O]? = some (.cells (outC 17 kv lv) 27 (0, 0)) ∧
  (D 4 = false → Kids w Lb ks acc kv lv xs bl ∧ (D 3 = true → ∃ gk, ev 40 = .slice (some ⟨gk, 0, none⟩) 1 1 ∧ w.heap[gk]? = some (.cells #[.string ⟨k.toArray⟩] 9 (0, 0)))) ∧
  (D 4 = true → ∃ A c, ev 41 = .slice A (ks.length + 1) c ∧ Kids w Lb (ks ++ [k]) acc (.slice A (ks.length + 1) c) lv xs bl)
/-- Behind the value. -/
def StMb (R O Lb : Nat) (s : List UInt8) (k : List UInt8) (ks : List (List UInt8)) (acc : List DT) (kv lv : Value) (xs : List Value) (bl : List Nat) (r : VR) (D : Nat → Bool) (ev : Tmp → Value) (w : World) : Prop :=
  D 3 = true ∧ D 4 = true ∧ D 10 = true ∧ ∃ T t3 m A c, r = .ok (T, t3, m) ∧ PRow w R s t3 m ∧ ev 41 = .slice A (ks.length + 1) c ∧
    (D 12 = false → D 14 = false ∧ D 16 = false ∧ w.heap[O]? = some (.cells (outC 17 kv lv) 27 (0, 0)) ∧ ∃ wv x0 x1 x2 x3 x4 x5 bs, Kids wv Lb (ks ++ [k]) acc (.slice A (ks.length + 1) c) lv xs bl ∧ Touch [R] wv w ∧ Lb ≤ wv.heap.size ∧ ev 47 = .agg #[x0, x1, x2, x3, x4, x5] ∧ NRep w T [x0, x1, x2, x3, x4, x5] bs ∧ bs.Nodup ∧ (∀ i ∈ bs, wv.heap.size ≤ i) ∧
      (D 11 = true → ∃ ge, ev 48 = .slice (some ⟨ge, 0, none⟩) 1 1 ∧ w.heap[ge]? = some (.cells #[x0, x1, x2, x3, x4, x5] 27 (0, 0)))) ∧
    (D 12 = true → D 11 = true ∧ ∃ A2 c2 xs2 bl2, ev 49 = .slice A2 (acc.length + 1) c2 ∧ Kids w Lb (ks ++ [k]) (acc ++ [T]) (.slice A (ks.length + 1) c) (.slice A2 (acc.length + 1) c2) xs2 bl2 ∧
      w.heap[O]? = some (.cells (outC 17 (if D 14 = true then .slice A (ks.length + 1) c else kv) (if D 16 = true then .slice A2 (acc.length + 1) c2 else lv)) 27 (0, 0)))
def StM (B R O Lb M : Nat) (E : List (Nat × Obj)) (s : List UInt8) (wr : World) (tk : Tok) (many : Int) (k : List UInt8) (ks : List (List UInt8)) (acc : List DT) (kv lv : Value) (xs : List Value) (bl : List Nat) (r : VR) (D : Nat → Bool) (ev : Tmp → Value) (w : World) : Prop :=
  Tch B [R] wr w ∧ wr.heap.size ≤ w.heap.size ∧ (∀ p ∈ E, w.heap[p.1]? = some p.2) ∧ MapIs Tryz.prog 9 w M (hadI (k :: ks)) ∧ (StMa R O Lb s tk many k ks acc kv lv xs bl D ev w ∨ StMb R O Lb s k ks acc kv lv xs bl r D ev w)
theorem StM_sc (B R O Lb M A0 A1 : Nat) (dp : Int) (E : List (Nat × Obj)) (s : List UInt8) (wr : World) (tk : Tok) (many : Int) (k : List UInt8) (ks : List (List UInt8)) (acc : List DT) (kv lv : Value) (xs : List Value) (bl : List Nat) (r : VR) (D D' : Nat → Bool) (ev ev' : Tmp → Value) (w : World)
    (h : ∀ i ∈ [3, 4, 10, 11, 12, 14, 16], D i = D' i) (he : ∀ t, lightM R A0 A1 O dp k kv lv t = none → ev t = ev' t) (hs : StM B R O Lb M E s wr tk many k ks acc kv lv xs bl r D ev w) : StM B R O Lb M E s wr tk many k ks acc kv lv xs bl r D' ev' w := by
  unfold StM StMa StMb at hs ⊢
  rwa [← h 3 (by decide), ← h 4 (by decide), ← h 10 (by decide), ← h 11 (by decide), ← h 12 (by decide), ← h 14 (by decide), ← h 16 (by decide), ← he 40 rfl, ← he 41 rfl, ← he 47 rfl, ← he 48 rfl, ← he 49 rfl]
def lightN (R A0 : Nat) (k : Int) (t : Tmp) : Option Value := match t with
  | 0 => some (.pointer (some ⟨A0, 0, none⟩))
  | 10 => some (.pointer (some ⟨R, 0, none⟩))
  | 11 => some (.pointer (some ⟨R, 0, none⟩))
  | 12 => some (.pointer (some ⟨R, 0, none⟩))
  | 13 => some (.pointer (some ⟨R, 1, none⟩))
  | 14 => some (.pointer (some ⟨R, 1, none⟩))
  | 15 => some (.int .i64 k)
  | 16 => some (.bool (k == 12))
  | _ => none
set_option maxHeartbeats 16000000 in
set_option maxRecDepth 100000 in
theorem members1_any (s : List UInt8) (hl : s.length ≤ 1073741824) (R B A0 A1 H M O Lb : Nat) (E : List (Nat × Obj)) (dp : Int) (hRB : R < B) (hO : B ≤ O) (hOL : O < Lb) (hEx : ∀ p ∈ E, B ≤ p.1 ∧ p.1 < Lb ∧ p.1 ≠ O ∧ p.1 ≠ M) (hM : B ≤ M ∧ M < Lb ∧ M ≠ O) (hE0 : (A0, Obj.cells #[.pointer (some ⟨R, 0, none⟩)] 58 (0, 0)) ∈ E) (hE1 : (A1, Obj.cells #[.int .i64 dp] 3 (0, 0)) ∈ E)
    (hEH : (H, Obj.cells #[.map (some M)] 142 (0, 0)) ∈ E) (hd0 : 0 ≤ dp) (hd1 : dp ≤ 63) (hGR : Gb R) (g : Nat) (HV : ValC s g)
    (w0 wr : World) (tk : Tok) (many : Int) (ks : List (List UInt8)) (acc : List DT) (hE : EaW B R s (MJ O Lb M E) w0 tk many ks acc wr) (hLb : Lb ≤ wr.heap.size) (hGl : Glb wr) (hm0 : 0 ≤ many) (hm : many ≤ 4096) (hf : 2 * (4096 - many) + 1 ≤ g) :
    Calls Tryz.prog 91 #[.pointer (some ⟨A0, 0, none⟩), .pointer (some ⟨H, 0, none⟩), .pointer (some ⟨O, 0, none⟩), .pointer (some ⟨A1, 0, none⟩)] wr (OneP B R s (MJ O Lb M E) acc wr (oneR s g true (dp + 1) tk many ks)) := by
  have hkl : tk.text.length ≤ 9223372036854775807 := Nat.le_trans hE.p.2.1 (by decide)
  obtain ⟨kv, lv, xs, bl, hj⟩ := hE.j.j
  have q0 : wr.cell? ⟨A0, 0, none⟩ = some (.pointer (some ⟨R, 0, none⟩)) := cell_of_row _ _ _ _ _ _ (hj.e _ hE0)
  obtain ⟨c0, c1, c2, c3, c4, c5, c6, c7, cf⟩ := hE.p.cells
  unfold strV at c6
  have HE := Lib.hid hE
  generalize hres : oneR s g true (dp + 1) tk many ks = res
  unfold oneR headP at hres
  rw [if_neg (by decide)] at hres
  go_enter Tryz.func91, Tryz.ntmps91
  go_upto_region 1 with fail
  by_cases h1 : tk.kind = 12
  · have e1 : (tk.kind == 12) = true := by simp [h1]
    rw [if_neg (show ¬ tk.kind ≠ 12 by simp [h1])] at hres
    have HN1 := Lib.hid (fun W => (need_ok R 100 W).mono fun _ _ h => And.intro h.1 h.2.symm)
    rw [h1] at c1
    go_quiet ((go_at_call 28; exact Calls.quiet_of_same (HN1.out _)))
    go_upto_region 2 with fail
    refine wp_named (fun wn => Below wr.heap.size wr wn) (below_drewN (Below.refl _ _) _) ?_
    rintro wn hbn
    have q0' : wn.cell? ⟨A0, 0, none⟩ = some (.pointer (some ⟨R, 0, none⟩)) := (hbn.cell (p := ⟨A0, 0, none⟩) (lt_cell q0)).trans q0
    have HBN := Lib.hid hbn
    have HP := Lib.hid (hE.p.below hbn)
    clear hbn HN1 c0 c1 c2 c3 c4 c5 c6 c7 cf e1 h1 q0
    have HKX := Lib.hid (fun W => keyx_any tk.text W)
    by_cases h2 : (0 : UInt8) ∈ tk.text
    · rw [if_pos h2] at hres
      have hkx : keyX tk.text = 70 := if_pos h2
      rw [hkx] at HKX
      unfold strV at HKX
      refine wp_region_stage (n := 52) (fun t => match t with | 0 => some (.pointer (some ⟨A0, 0, none⟩)) | 4 => some (.string ⟨tk.text.toArray⟩) | 18 => some (.pointer (some ⟨R, 0, none⟩)) | 19 => some (.string ⟨tk.text.toArray⟩) | _ => none) [2, 3, 4] (fun D ev w => Below wn.heap.size wn w ∧ D 4 = false ∧ (D 2 = true → ev 20 = .int .i64 70) ∧ (D 3 = true → ev 21 = .bool false)) (by kernel_rfl) (by kernel_rfl) rfl (fun D D' ev ev' w h he hs => ⟨hs.1, by rw [← h 4 (by decide)]; exact hs.2.1, fun hh => by rw [← he 20 rfl]; exact hs.2.2.1 (by rw [h 2 (by decide)]; exact hh), fun hh => by rw [← he 21 rfl]; exact hs.2.2.2 (by rw [h 3 (by decide)]; exact hh)⟩) ?_ ⟨(Below.refl _ _).drew, rfl, (fun h => by cases h), (fun h => by cases h)⟩ ?_ ?_ ?_ ?_
      · intro t V hl ht
        split at hl
        · cases hl; rfl
        · cases hl; rfl
        · exact absurd rfl (ht 0 _ rfl)
        · exact absurd rfl (ht 1 _ rfl)
        · cases hl
      · intro jq oq hjq hns
        match jq, hjq, hns with
        | 0, hjq, _ =>
          simp only [List.getElem?_toArray, List.getElem?_cons_zero, List.getElem?_cons_succ, Option.some.injEq] at hjq
          subst hjq
          exact ⟨18, _, rfl, rfl, fun D a w hS hall hDi hcl hk => ⟨rfl, opwp_ldP rfl (hk 0 (by decide) _ rfl) ((hS.1.cell (p := ⟨A0, 0, none⟩) (lt_cell q0')).trans q0') ⟨rfl, rfl⟩⟩⟩
        | 1, hjq, _ =>
          simp only [List.getElem?_toArray, List.getElem?_cons_zero, List.getElem?_cons_succ, Option.some.injEq] at hjq
          subst hjq
          exact ⟨19, _, rfl, rfl, fun D a w hS hall hDi hcl hk => ⟨rfl, opwp_move rfl (hk 4 (by decide) _ rfl) ⟨rfl, rfl⟩⟩⟩
        | 2, _, h | 3, _, h | 4, _, h => exact absurd (by decide) h
        | kq + 5, hjq, _ => cases hjq
      · intro jq oq hjq hsp d hd
        simp only [List.mem_cons, List.not_mem_nil, or_false] at hsp
        rcases hsp with rfl | rfl | rfl
        all_goals
          simp only [List.getElem?_toArray, List.getElem?_cons_zero, List.getElem?_cons_succ, Option.some.injEq] at hjq
          subst hjq
          cases hd
        all_goals rfl
      · intro jq oq hjq hsp D a w had hS hall hDi hcl hk
        simp only [List.mem_cons, List.not_mem_nil, or_false] at hsp
        obtain ⟨hb, h4, s2, s3⟩ := hS
        rcases hsp with rfl | rfl | rfl
        · simp only [List.getElem?_toArray, List.getElem?_cons_zero, List.getElem?_cons_succ, Option.some.injEq] at hjq
          subst hjq
          have e19 : a.eval (.tmp 19) = .string ⟨tk.text.toArray⟩ := hk 19 (by decide) _ rfl
          refine ⟨rfl, opwp_call (fun v w' => v = .int .i64 70 ∧ w = w') (exec_call [a.eval (.tmp 19)] Tryz.func92 (by kernel_rfl) rfl rfl rfl) ?_ ?_⟩
          · rw [e19]
            refine (HKX.out w).mono ?_
            rintro o w' ⟨rfl, h⟩
            exact ⟨_, rfl, rfl, h⟩
          · rintro v w' ⟨rfl, rfl⟩
            exact ⟨_, rfl, hb, h4, fun _ => rfl, s3⟩
        · simp only [List.getElem?_toArray, List.getElem?_cons_zero, List.getElem?_cons_succ, Option.some.injEq] at hjq
          subst hjq
          have e20 : a.eval (.tmp 20) = .int .i64 70 := s2 (hall _ (Array.getElem_mem (i := 0) (by decide)) rfl)
          exact ⟨rfl, opwp_eqE rfl e20 ⟨_, rfl, hb, h4, s2, fun _ => rfl⟩⟩
        · simp only [List.getElem?_toArray, List.getElem?_cons_zero, List.getElem?_cons_succ, Option.some.injEq] at hjq
          subst hjq
          have e18 : a.eval (.tmp 18) = .pointer (some ⟨R, 0, none⟩) := hk 18 (by decide) _ rfl
          have e21 : a.eval (.tmp 21) = .bool false := s3 (hall _ (Array.getElem_mem (i := 1) (by decide)) rfl)
          refine ⟨rfl, ?_⟩
          unfold Oper.wp
          rw [exec_call [a.eval (.tmp 18), a.eval (.tmp 21), .int .i64 70] Tryz.func28 (by kernel_rfl) rfl rfl rfl, Oper.upon_enter, e18, e21]
          refine (need_no s tk many R 70 w (HP.out.below hb)).mono ?_
          rintro o w' ⟨rfl, rfl⟩
          have hfin : OneP B R s (MJ O Lb M E) acc wr res (.panicked (panV (tk.from_, 70))) w := by
            rw [← hres]
            exact ⟨(Touch.quiet (HBN.out.trans (hb.mono HBN.out.size))).tch HE.out.b, rfl⟩
          exact ⟨had, hfin⟩
      · intro D a w had hn' hDD hl h0 hS
        have := hDD 4 (by decide)
        rw [hS.2.1] at this
        cases this
    · rw [if_neg h2] at hres
      have hkx : keyX tk.text = 0 := if_neg h2
      rw [hkx] at HKX
      unfold strV at HKX
      have HK2 := Lib.hid (fun W => (HKX.out W).mono fun _ _ h => And.intro h.1 h.2.symm)
      have HN2 := Lib.hid (fun W => (need_ok R 70 W).mono fun _ _ h => And.intro h.1 h.2.symm)
      go_quiet ((first | (go_at_call 28; exact Calls.quiet_of_same (HN2.out _)) | (go_at_call 92; exact Calls.quiet_of_same (HK2.out _))))
      go_upto_region 3 with fail
      refine wp_named (fun wx => Below wr.heap.size wr wx) (HBN.out.trans ((below_drewN (Below.refl _ _) _).mono HBN.out.size)) ?_
      rintro wx hbx
      clear HKX HK2 HN2 hkx h2 HP HBN q0' wn
      have HBX := Lib.hid hbx
      have h0r := (hbx.block A0 (Array.getElem?_eq_some_iff.1 (hj.e _ hE0)).1).trans (hj.e _ hE0)
      have hHr := (hbx.block H (Array.getElem?_eq_some_iff.1 (hj.e _ hEH)).1).trans (hj.e _ hEH)
      have hMx := hE.j.m.same (hbx.block M hE.j.m.lt)
      have q0 : wx.cell? ⟨A0, 0, none⟩ = some (.pointer (some ⟨R, 0, none⟩)) := cell_of_row _ _ _ _ _ _ h0r
      have qH : wx.cell? ⟨H, 0, none⟩ = some (.map (some M)) := cell_of_row _ _ _ _ _ _ hHr
      have hlk := hadI_look hMx hkl
      have hTx : Tch B [R] wr wx := (Touch.quiet hbx).tch HE.out.b
      have hxz := hbx.size
      by_cases h3 : tk.text ∈ ks
      · rw [if_pos h3] at hres
        rw [hadI_some _ _ h3] at hlk
        obtain ⟨ob, hup, hM2⟩ := hadI_put hMx hkl (.int .i64 2)
        unfold strV at hlk hup
        simp only [Option.getD_some] at hlk
        have HM2 := Lib.hid hM2
        have HRES := Lib.hid hres
        clear hM2 hj hE hres
        go_upto_region 4 with fail
        refine wp_named (fun wy => (∀ i, i ≠ M → wy.heap[i]? = wx.heap[i]?) ∧ MapIs Tryz.prog 9 wy M (putF tk.text (.int .i64 2) (hadI ks)) ∧ Tch B [R] wr wy) ⟨fun i hi => heap_setBlock_other wx M i ob hi, HM2.out, hTx.setBlockNew hM.1 ob⟩ ?_
        rintro wy ⟨hoth, hMy, hTy⟩
        have hlk2 := hadI_look hMy hkl
        rw [putF_at] at hlk2
        unfold strV at hlk2
        simp only [Option.getD_some] at hlk2
        have h0y : wy.cell? ⟨A0, 0, none⟩ = some (.pointer (some ⟨R, 0, none⟩)) := cell_of_row _ _ _ _ _ _ ((hoth A0 (hEx _ hE0).2.2.2).trans h0r)
        have hHy : wy.cell? ⟨H, 0, none⟩ = some (.map (some M)) := cell_of_row _ _ _ _ _ _ ((hoth H (hEx _ hEH).2.2.2).trans hHr)
        have HNO := Lib.hid (need_no s tk many R 71 wy ((HE.out.p.below HBX.out).same (hoth R (by omega))))
        have HTY := Lib.hid hTy
        clear hlk hup q0 qH h0r hHr hMx HM2 hoth hMy hTy hTx
        go_wp2_with fail
        refine HNO.out.mono ?_
        rintro o w' ⟨rfl, rfl⟩
        have hfin : OneP B R s (MJ O Lb M E) acc wr res (.panicked (panV (tk.from_, 71))) wy := by
          rw [← HRES.out]
          exact ⟨HTY.out, rfl⟩
        exact ⟨rfl, hfin⟩
      · rw [if_neg h3] at hres
        rw [hadI_none _ _ h3] at hlk
        obtain ⟨ob, hup, hM2⟩ := hadI_put hMx hkl (.int .i64 1)
        unfold strV at hlk hup
        simp only [Option.getD_none] at hlk
        have HM2 := Lib.hid hM2
        have HRES := Lib.hid hres
        clear hM2 hres
        go_upto_region 4 with fail
        refine wp_named (fun wy => (∀ i, i ≠ M → wy.heap[i]? = wx.heap[i]?) ∧ MapIs Tryz.prog 9 wy M (hadI (tk.text :: ks)) ∧ Tch B [R] wr wy ∧ wy.heap.size = wx.heap.size) ⟨fun i hi => heap_setBlock_other wx M i ob hi, HM2.out, hTx.setBlockNew hM.1 ob, size_setBlock _ _ _⟩ ?_
        rintro wy ⟨hoth, hMy, hTy, hzy⟩
        have hlk2 := hadI_look hMy hkl
        rw [hadI_some _ _ (by simp)] at hlk2
        unfold strV at hlk2
        simp only [Option.getD_some] at hlk2
        have h0y : wy.cell? ⟨A0, 0, none⟩ = some (.pointer (some ⟨R, 0, none⟩)) := cell_of_row _ _ _ _ _ _ ((hoth A0 (hEx _ hE0).2.2.2).trans h0r)
        have hHy : wy.cell? ⟨H, 0, none⟩ = some (.map (some M)) := cell_of_row _ _ _ _ _ _ ((hoth H (hEx _ hEH).2.2.2).trans hHr)
        have HJY := Lib.hid (show LJ 17 O Lb E ks acc kv lv xs bl wy from by
          have h' : ∀ i, i ≠ M → i < wr.heap.size → wy.heap[i]? = wr.heap[i]? := fun i hi hl => (hoth i hi).trans (HBX.out.block i hl)
          exact ⟨fun p hp => (h' p.1 (hEx p hp).2.2.2 (Array.getElem?_eq_some_iff.1 (hj.e p hp)).1).trans (hj.e p hp), (h' O (by omega) (Array.getElem?_eq_some_iff.1 hj.o).1).trans hj.o, hj.k.same fun i hi => h' i (by have := hj.k.ge i hi; omega) (hj.k.lt i hi)⟩)
        have hPy : PRow wy R s tk many := (HE.out.p.below HBX.out).same (hoth R (by omega))
        have HMY := Lib.hid hMy
        have HTY := Lib.hid hTy
        have hGy : Glb wy := hGl.tch hTy (hGR.mono (Nat.le_of_lt hRB)) hGR
        have HOK := Lib.hid (need_ok R 71 wy)
        have HN := Lib.hid fun (W : World) (tt : Tok) (m : Int) (h : PRow W R s tt m) (hg : Glb W) => nextr_any s tt m R W h hl hg hGR
        have HPA := Lib.hid fun (W : World) (tt : Tok) (m : Int) (h : PRow W R s tt m) (hg : Glb W) => past_any s tt m R 6 W h hl hg hGR
        have HPY := Lib.hid hPy
        clear hlk hup q0 qH h0r hHr hMx HM2 hoth hMy hTx hTy hPy hj
        go_wp2_with fail
        refine HOK.out.mono ?_
        rintro o w' ⟨rfl, rfl⟩
        clear hlk2 hHy
        go_wp2_with fail
        refine (HN.out wy tk many HPY.out hGy).mono ?_
        rintro o w1 ⟨ht, hn⟩
        cases hq : nextP s tk with
        | error x =>
          rw [hq] at hn
          obtain rfl := hn
          have hfin : OneP B R s (MJ O Lb M E) acc wr res (.panicked (panV x)) w1 := by
            rw [← HRES.out, hq]
            exact ⟨HTY.out.trans (ht.tch (by have := HTY.out.size; have := HE.out.b; omega)), rfl⟩
          exact ⟨rfl, hfin⟩
        | ok t1 =>
          rw [hq] at hn
          obtain ⟨rfl, hp1⟩ := hn
          have hres := HRES.out
          rw [hq] at hres
          dsimp only at hres
          have hRE : R < Lb ∧ R < O ∧ ∀ p ∈ E, R < p.1 := ⟨by omega, by omega, fun p hp => by have := hEx p hp; omega⟩
          have hT1 : Tch B [R] wr w1 := HTY.out.trans (ht.tch (by have := HTY.out.size; have := HE.out.b; omega))
          have HJ1 := Lib.hid (HJY.out.same hRE ht)
          have HM1 := Lib.hid (HMY.out.same (ht.block M HMY.out.lt (by simp; omega)))
          have hG1 : Glb w1 := hGl.tch hT1 (hGR.mono (Nat.le_of_lt hRB)) hGR
          have h0z : w1.cell? ⟨A0, 0, none⟩ = some (.pointer (some ⟨R, 0, none⟩)) := cell_of_row _ _ _ _ _ _ (HJ1.out.e _ hE0)
          have HT1 := Lib.hid hT1
          have HRES1 := Lib.hid hres
          have HPAX := Lib.hid (HPA.out w1 t1 many hp1 hG1)
          clear hq ht hp1 hT1 hres HRES HOK HJY HMY HTY HPY hGy h0y
          go_wp2_with fail
          refine HPAX.out.mono ?_
          intro o w2 hh
          by_cases h6 : t1.kind = 6
          · rw [if_pos h6] at hh
            obtain ⟨ht, hn⟩ := hh
            have hres := HRES1.out
            rw [if_neg (by simp [h6])] at hres
            cases hq : nextP s t1 with
            | error x =>
              rw [hq] at hn
              obtain rfl := hn
              have hfin : OneP B R s (MJ O Lb M E) acc wr res (.panicked (panV x)) w2 := by
                rw [← hres, hq]
                exact ⟨HT1.out.trans (ht.tch (by have := HT1.out.size; have := HE.out.b; omega)), rfl⟩
              exact ⟨rfl, hfin⟩
            | ok t2 =>
              rw [hq] at hn
              obtain ⟨rfl, hp2⟩ := hn
              rw [hq] at hres
              dsimp only at hres
              have hT2 : Tch B [R] wr w2 := HT1.out.trans (ht.tch (by have := HT1.out.size; have := HE.out.b; omega))
              have HJ2 := Lib.hid (HJ1.out.same hRE ht)
              have HM2 := Lib.hid (HM1.out.same (ht.block M HM1.out.lt (by simp; omega)))
              have hG2 : Glb w2 := hGl.tch hT2 (hGR.mono (Nat.le_of_lt hRB)) hGR
              have HT2 := Lib.hid hT2
              have HP2 := Lib.hid hp2
              have HRES2 := Lib.hid hres
              clear hq ht hp2 hT2 hres HRES1 HPAX HJ1 HM1 hG1 HT1 h0z
              go_upto_region 7 with fail
              have hj := HJ2.out
              have hMM := HM2.out
              have hP := HP2.out
              have hres := HRES2.out
              have hn := HE.out.n
              have hkn := HE.out.j.n
              have hLb2 : Lb ≤ w2.heap.size := Nat.le_trans hLb HT2.out.size
              have hGl2 := hG2
              clear HRES2 HJ2 HM2 HP2 hG2 HN HPA HBX hbx
              generalize tk.text = KK at *
              have HVV := Lib.hid fun (W : World) (h : PRow W R s t2 many) (hg : Glb W) => HV (dp + 1) t2 many R W h hg hGR hm0 hm hf (by omega) (by omega)
              generalize valP s g (dp + 1) t2 many = r at *
              obtain ⟨Ak, ck, rfl⟩ := owns_ptr hj.k.k
              obtain ⟨Al, cl, rfl⟩ := owns_ptr hj.k.r
              have hRr := hP.lt
              have hOr := (Array.getElem?_eq_some_iff.1 hj.o).1
              have hRE : R < Lb ∧ R < O ∧ ∀ p ∈ E, R < p.1 := ⟨by omega, by omega, fun p hp => by have := hEx p hp; omega⟩
              obtain ⟨i0, hi, hz0, hz1, hz2⟩ := info_parts nodeInfo
              obtain ⟨i1, hi', hz0', hz1', hz2'⟩ := info_parts strInfo
              have H63 : acc.length + 1 ≤ maxLen := by unfold maxLen; omega
              have HBY : (acc.length + 1) * 88 ≤ 140737488355328 := by omega
              have H63k : ks.length + 1 ≤ maxLen := by unfold maxLen; omega
              have HBYk : (ks.length + 1) * 16 ≤ 140737488355328 := by omega
              refine wp_region_stage (n := 52) (lightM R A0 A1 O dp KK (.slice Ak ks.length ck) (.slice Al acc.length cl)) [3, 4, 10, 11, 12, 14, 16] (StM B R O Lb M E s w2 t2 many KK ks acc (.slice Ak ks.length ck) (.slice Al acc.length cl) xs bl r) (by kernel_rfl) (by kernel_rfl) rfl (StM_sc B R O Lb M A0 A1 dp E s w2 t2 many KK ks acc (.slice Ak ks.length ck) (.slice Al acc.length cl) xs bl r) ?_ ?_ ?_ ?_ ?_ ?_
              · intro t V hl ht
                unfold lightM at hl
                split at hl
                · cases hl; rfl
                · cases hl; rfl
                · cases hl; rfl
                · cases hl; rfl
                · exact absurd rfl (ht 0 _ rfl)
                · exact absurd rfl (ht 1 _ rfl)
                · exact absurd rfl (ht 2 _ rfl)
                · exact absurd rfl (ht 5 _ rfl)
                · exact absurd rfl (ht 6 _ rfl)
                · exact absurd rfl (ht 7 _ rfl)
                · exact absurd rfl (ht 8 _ rfl)
                · exact absurd rfl (ht 9 _ rfl)
                · exact absurd rfl (ht 13 _ rfl)
                · exact absurd rfl (ht 15 _ rfl)
                · cases hl
              · exact ⟨(Tch.refl B [R] w2).drew, Nat.le_refl _, hj.e, hMM, .inl ⟨rfl, rfl, rfl, rfl, rfl, hP, hj.o, fun _ => ⟨hj.k.same fun _ _ => rfl, fun h => by cases h⟩, fun h => by cases h⟩⟩
              · intro jq oq hjq hns
                match jq, hjq, hns with
                | 0, hjq, _ =>
                  simp only [List.getElem?_toArray, List.getElem?_cons_zero, List.getElem?_cons_succ, Option.some.injEq] at hjq
                  subst hjq
                  exact ⟨37, _, rfl, rfl, fun D a w hS hall hDi hcl hk => ⟨rfl, opwp_faN4 rfl (hk 2 (by decide) _ rfl) ⟨rfl, rfl⟩⟩⟩
                | 1, hjq, _ =>
                  simp only [List.getElem?_toArray, List.getElem?_cons_zero, List.getElem?_cons_succ, Option.some.injEq] at hjq
                  subst hjq
                  refine ⟨38, _, rfl, rfl, fun D a w hS hall hDi hcl hk => ⟨rfl, ?_⟩⟩
                  have h14 : D 14 = false := by
                    cases h : D 14 with
                    | false => rfl
                    | true =>
                      have : D 1 = true := hcl 14 _ rfl h _ (Array.getElem_mem (i := 4) (by decide)) rfl
                      rw [hDi] at this; cases this
                  rcases hS.2.2.2.2 with ⟨-, -, -, -, -, -, ho, -⟩ | ⟨-, -, -, T, t3, m, A, c, -, -, -, hA, hBB⟩
                  · exact opwp_ldT rfl (hk 37 (by decide) _ rfl) (cell_of_row _ _ _ _ _ _ ho) ⟨rfl, rfl⟩
                  · cases h12 : D 12 with
                    | false => exact opwp_ldT rfl (hk 37 (by decide) _ rfl) (cell_of_row _ _ _ _ _ _ (hA h12).2.2.1) ⟨rfl, rfl⟩
                    | true =>
                      obtain ⟨-, A2, c2, xs2, bl2, -, -, ho⟩ := hBB h12
                      rw [if_neg (by rw [h14]; decide)] at ho
                      exact opwp_ldT rfl (hk 37 (by decide) _ rfl) (cell_of_row _ _ _ _ _ _ ho) ⟨rfl, rfl⟩
                | 2, hjq, _ =>
                  simp only [List.getElem?_toArray, List.getElem?_cons_zero, List.getElem?_cons_succ, Option.some.injEq] at hjq
                  subst hjq
                  exact ⟨39, _, rfl, rfl, fun D a w hS hall hDi hcl hk => ⟨rfl, opwp_move rfl (hk 4 (by decide) _ rfl) ⟨rfl, rfl⟩⟩⟩
                | 5, hjq, _ =>
                  simp only [List.getElem?_toArray, List.getElem?_cons_zero, List.getElem?_cons_succ, Option.some.injEq] at hjq
                  subst hjq
                  exact ⟨42, _, rfl, rfl, fun D a w hS hall hDi hcl hk => ⟨rfl, opwp_faN5 rfl (hk 2 (by decide) _ rfl) ⟨rfl, rfl⟩⟩⟩
                | 6, hjq, _ =>
                  simp only [List.getElem?_toArray, List.getElem?_cons_zero, List.getElem?_cons_succ, Option.some.injEq] at hjq
                  subst hjq
                  refine ⟨43, _, rfl, rfl, fun D a w hS hall hDi hcl hk => ⟨rfl, ?_⟩⟩
                  have h12 : D 12 = false := by
                    cases h : D 12 with
                    | false => rfl
                    | true =>
                      have : D 6 = true := hcl 12 _ rfl h _ (Array.getElem_mem (i := 0) (by decide)) rfl
                      rw [hDi] at this; cases this
                  rcases hS.2.2.2.2 with ⟨-, -, -, -, -, -, ho, -⟩ | ⟨-, -, -, T, t3, m, A, c, -, -, -, hA, hBB⟩
                  · exact opwp_ldL rfl (hk 42 (by decide) _ rfl) (cell_of_row _ _ _ _ _ _ ho) ⟨rfl, rfl⟩
                  · exact opwp_ldL rfl (hk 42 (by decide) _ rfl) (cell_of_row _ _ _ _ _ _ (hA h12).2.2.1) ⟨rfl, rfl⟩
                | 7, hjq, _ =>
                  simp only [List.getElem?_toArray, List.getElem?_cons_zero, List.getElem?_cons_succ, Option.some.injEq] at hjq
                  subst hjq
                  exact ⟨44, _, rfl, rfl, fun D a w hS hall hDi hcl hk => ⟨rfl, opwp_ldP rfl (hk 0 (by decide) _ rfl) (cell_of_row _ _ _ _ _ _ (hS.2.2.1 _ hE0)) ⟨rfl, rfl⟩⟩⟩
                | 8, hjq, _ =>
                  simp only [List.getElem?_toArray, List.getElem?_cons_zero, List.getElem?_cons_succ, Option.some.injEq] at hjq
                  subst hjq
                  exact ⟨45, _, rfl, rfl, fun D a w hS hall hDi hcl hk => ⟨rfl, opwp_ldI rfl (hk 3 (by decide) _ rfl) (cell_of_row _ _ _ _ _ _ (hS.2.2.1 _ hE1)) ⟨rfl, rfl⟩⟩⟩
                | 9, hjq, _ =>
                  simp only [List.getElem?_toArray, List.getElem?_cons_zero, List.getElem?_cons_succ, Option.some.injEq] at hjq
                  subst hjq
                  exact ⟨46, _, rfl, rfl, fun D a w hS hall hDi hcl hk => ⟨rfl, opwp_add1I rfl (hk 45 (by decide) _ rfl) (by omega) (by omega) ⟨rfl, rfl⟩⟩⟩
                | 13, hjq, _ =>
                  simp only [List.getElem?_toArray, List.getElem?_cons_zero, List.getElem?_cons_succ, Option.some.injEq] at hjq
                  subst hjq
                  exact ⟨50, _, rfl, rfl, fun D a w hS hall hDi hcl hk => ⟨rfl, opwp_faN4 rfl (hk 2 (by decide) _ rfl) ⟨rfl, rfl⟩⟩⟩
                | 15, hjq, _ =>
                  simp only [List.getElem?_toArray, List.getElem?_cons_zero, List.getElem?_cons_succ, Option.some.injEq] at hjq
                  subst hjq
                  exact ⟨51, _, rfl, rfl, fun D a w hS hall hDi hcl hk => ⟨rfl, opwp_faN5 rfl (hk 2 (by decide) _ rfl) ⟨rfl, rfl⟩⟩⟩
                | 3, _, h | 4, _, h | 10, _, h | 11, _, h | 12, _, h | 14, _, h | 16, _, h => exact absurd (by decide) h
                | kq + 17, hjq, _ => cases hjq
              · intro jq oq hjq hsp d hd
                simp only [List.mem_cons, List.not_mem_nil, or_false] at hsp
                rcases hsp with rfl | rfl | rfl | rfl | rfl | rfl | rfl
                all_goals
                  simp only [List.getElem?_toArray, List.getElem?_cons_zero, List.getElem?_cons_succ, Option.some.injEq] at hjq
                  subst hjq
                  cases hd
                all_goals rfl
              · intro jq oq hjq hsp D a w had hS hall hDi hcl hk
                simp only [List.mem_cons, List.not_mem_nil, or_false] at hsp
                obtain ⟨hT, hzw, hEw, hMw, hS⟩ := hS
                have hEl : ∀ p ∈ E, p.1 < w.heap.size := fun p hp => (Array.getElem?_eq_some_iff.1 (hEw p hp)).1
                have hMl := hMw.lt
                have hkl0 := hj.k.lt
                rcases hsp with rfl | rfl | rfl | rfl | rfl | rfl | rfl
                · simp only [List.getElem?_toArray, List.getElem?_cons_zero, List.getElem?_cons_succ, Option.some.injEq] at hjq
                  subst hjq
                  rcases hS with ⟨h10, h11, h12, h14, h16, hP, ho, hK0, hK1⟩ | ⟨h3, -⟩
                  case inr => rw [h3] at hDi; cases hDi
                  have hbw : Below w.heap.size w (w.alloc (.cells #[.string ⟨KK.toArray⟩] 9)) := (Below.refl _ w).alloc (Nat.le_refl _) _
                  have e39 : a.eval (.tmp 39) = .string ⟨KK.toArray⟩ := hk 39 (by decide) _ rfl
                  have h4 : D 4 = false := by
                    cases h : D 4 with
                    | false => rfl
                    | true =>
                      have : D 3 = true := hcl 4 _ rfl h _ (Array.getElem_mem (i := 1) (by decide)) rfl
                      rw [hDi] at this; cases this
                  refine ⟨rfl, opwp_bsT1 rfl e39 ⟨_, rfl, hT.alloc (by omega) _, Nat.le_trans hzw hbw.size, fun p hp => (hbw.block _ (hEl p hp)).trans (hEw p hp), hMw.same (hbw.block _ hMl), .inl ⟨h10, h11, h12, h14, h16, hP.below hbw, (hbw.block _ (Array.getElem?_eq_some_iff.1 ho).1).trans ho, fun _ => ⟨(hK0 h4).1.same fun i hi => hbw.block i ((hK0 h4).1.lt i hi), fun _ => ⟨w.heap.size, rfl, heap_alloc_new _ _⟩⟩, fun h => by rw [show D 4 = true from h] at h4; cases h4⟩⟩⟩
                · simp only [List.getElem?_toArray, List.getElem?_cons_zero, List.getElem?_cons_succ, Option.some.injEq] at hjq
                  subst hjq
                  rcases hS with ⟨h10, h11, h12, h14, h16, hP, ho, hK0, -⟩ | ⟨-, h4, -⟩
                  case inr => rw [h4] at hDi; cases hDi
                  have hd3 : D 3 = true := hall _ (Array.getElem_mem (i := 1) (by decide)) rfl
                  obtain ⟨hK, hgk⟩ := hK0 hDi
                  obtain ⟨gk, e40, hgr⟩ := hgk hd3
                  have e38 : a.eval (.tmp 38) = .slice Ak ks.length ck := hk 38 (by decide) _ rfl
                  have hRw := hP.lt
                  have hOw := (Array.getElem?_eq_some_iff.1 ho).1
                  refine ⟨rfl, opwp_app 24 rfl 9 i1 (.string ⟨#[]⟩) 1 16 Tryz.underlying24 hi' hz0' hz1' hz2' rfl (by decide) (.slice Ak ks.length ck) ks.length (ks.map strV) e38 hK.k ⟨gk, 0, none⟩ 1 1 [.string ⟨KK.toArray⟩] e40 rfl (row_at hgr) one_one H63k HBYk ?_⟩
                  intro v' w3 ho3 hg hwh
                  obtain ⟨A', c', rfl⟩ := owns_ptr ho3
                  have hK3 := hK.pushK (by omega) hg ho3 hwh
                  have hown : ∀ i, (Value.slice Ak ks.length ck).ownBlock = some i → Lb ≤ i := fun i hi => hK.ge i (by simp [mem_blk, hi])
                  have three : ∀ i, i < w.heap.size → i < Lb → w3.heap[i]? = w.heap[i]? := fun i hi hn => hg.block i hi (fun e => by have := hown i e.symm; omega)
                  exact ⟨_, rfl, hT.trans ⟨hg.os, hg.tape, hg.output, hg.size, fun i hi hn => three i (by omega) (by omega)⟩, Nat.le_trans hzw hg.size, fun p hp => (three p.1 (hEl p hp) (hEx p hp).2.1).trans (hEw p hp), hMw.same (three M hMl hM.2.1), .inl ⟨h10, h11, h12, h14, h16, hP.same (three R hRw (by omega)), (three O hOw hOL).trans ho, (fun h => by simp at h), fun _ => ⟨A', c', rfl, hK3⟩⟩⟩
                · simp only [List.getElem?_toArray, List.getElem?_cons_zero, List.getElem?_cons_succ, Option.some.injEq] at hjq
                  subst hjq
                  rcases hS with ⟨h10, h11, h12, h14, h16, hP, ho, -, hK1⟩ | ⟨-, -, h10, -⟩
                  case inr => rw [h10] at hDi; cases hDi
                  have hd4 : D 4 = true := hall _ (Array.getElem_mem (i := 2) (by decide)) rfl
                  have hd3 : D 3 = true := hcl 4 _ rfl hd4 _ (Array.getElem_mem (i := 1) (by decide)) rfl
                  obtain ⟨A, c, e41, hK⟩ := hK1 hd4
                  have e44 : a.eval (.tmp 44) = .pointer (some ⟨R, 0, none⟩) := hk 44 (by decide) _ rfl
                  have e46 : a.eval (.tmp 46) = .int .i64 (dp + 1) := hk 46 (by decide) _ rfl
                  refine ⟨rfl, ?_⟩
                  unfold Oper.wp
                  rw [exec_call [a.eval (.tmp 44), a.eval (.tmp 46)] Tryz.func27 (by kernel_rfl) rfl rfl rfl, Oper.upon_enter, e44, e46]
                  refine (HVV.out w hP (hGl2.tch hT (hGR.mono (Nat.le_of_lt hRB)) hGR)).mono ?_
                  rintro o w' ⟨ht, hrr⟩
                  cases r with
                  | error x =>
                    obtain rfl := hrr
                    have hfin : OneP B R s (MJ O Lb M E) acc wr res (.panicked (panV x)) w' := by
                      rw [← hres]
                      exact ⟨HT2.out.trans (hT.trans (ht.tch (by omega))), rfl⟩
                    exact ⟨had, hfin⟩
                  | ok p =>
                    obtain ⟨T, t3, m⟩ := p
                    obtain ⟨hp3, v, rfl, x0, x1, x2, x3, x4, x5, bs, rfl, hN, hnd, hge⟩ := hrr
                    refine ⟨_, rfl, hT.trans (ht.tch (by omega)), Nat.le_trans hzw ht.size, fun p hp => (ht.block p.1 (hEl p hp) (by have := hRE.2.2 p hp; simp; omega)).trans (hEw p hp), hMw.same (ht.block M hMl (by simp; omega)), .inr ⟨hd3, hd4, rfl, T, t3, m, A, c, rfl, hp3, e41, fun _ => ⟨h14, h16, (ht.block O (Array.getElem?_eq_some_iff.1 ho).1 (by simp; omega)).trans ho, w, x0, x1, x2, x3, x4, x5, bs, hK, ht, by omega, rfl, hN, hnd, hge, fun h => by rw [show D 11 = true from h] at h11; cases h11⟩, fun h => by rw [show D 12 = true from h] at h12; cases h12⟩⟩
                · simp only [List.getElem?_toArray, List.getElem?_cons_zero, List.getElem?_cons_succ, Option.some.injEq] at hjq
                  subst hjq
                  have hd10 : D 10 = true := hall _ (Array.getElem_mem (i := 0) (by decide)) rfl
                  rcases hS with ⟨h10, -⟩ | ⟨h3, h4, -, T, t3, m, A, c, hr3, hp3, e41, hA, hBB⟩
                  case inl => rw [h10] at hd10; cases hd10
                  have h12 : D 12 = false := by
                    cases h : D 12 with
                    | false => rfl
                    | true => rw [(hBB h).1] at hDi; cases hDi
                  obtain ⟨h14, h16, ho, wv, x0, x1, x2, x3, x4, x5, bs, hK, ht, hLv, e47, hN, hnd, hge, -⟩ := hA h12
                  obtain ⟨kd1, nn1, uu1, s1, B1, m1, d1, B2, m2, d2, rfl, rfl, rfl, rfl, rfl, rfl⟩ := hN.form2
                  have hbw : Below w.heap.size w (w.alloc (.cells #[.int .i64 kd1, .int .i64 nn1, .int .u64 uu1, .string s1, .slice B1 m1 d1, .slice B2 m2 d2] 27)) := (Below.refl _ w).alloc (Nat.le_refl _) _
                  refine ⟨rfl, opwp_bsN1 rfl e47 ⟨_, rfl, hT.alloc (by omega) _, Nat.le_trans hzw hbw.size, fun p hp => (hbw.block _ (hEl p hp)).trans (hEw p hp), hMw.same (hbw.block _ hMl), .inr ⟨h3, h4, hd10, T, t3, m, A, c, hr3, hp3.below hbw, e41, fun _ => ⟨h14, h16, (hbw.block _ (Array.getElem?_eq_some_iff.1 ho).1).trans ho, wv, _, _, _, _, _, _, bs, hK, ht.trans (Touch.quiet hbw), hLv, e47, hN.below hbw, hnd, hge, fun _ => ⟨w.heap.size, rfl, heap_alloc_new _ _⟩⟩, fun h => by rw [show D 12 = true from h] at h12; cases h12⟩⟩⟩
                · simp only [List.getElem?_toArray, List.getElem?_cons_zero, List.getElem?_cons_succ, Option.some.injEq] at hjq
                  subst hjq
                  have hd11 : D 11 = true := hall _ (Array.getElem_mem (i := 1) (by decide)) rfl
                  have hd10 : D 10 = true := hall _ (Array.getElem_mem (i := 2) (by decide)) rfl
                  rcases hS with ⟨h10, -⟩ | ⟨h3, h4, -, T, t3, m, A, c, hr3, hp3, e41, hA, -⟩
                  case inl => rw [h10] at hd10; cases hd10
                  obtain ⟨h14, h16, ho, wv, x0, x1, x2, x3, x4, x5, bs, hK, ht, hLv, e47, hN, hnd, hge, hge2⟩ := hA hDi
                  obtain ⟨ge, e48, hgr⟩ := hge2 hd11
                  have e43 : a.eval (.tmp 43) = .slice Al acc.length cl := hk 43 (by decide) _ rfl
                  have hRw := hp3.lt
                  have hOw := (Array.getElem?_eq_some_iff.1 ho).1
                  have hKw := hK.touch ht (by omega)
                  obtain ⟨kd1, nn1, uu1, s1, B1, m1, d1, B2, m2, d2, rfl, rfl, rfl, rfl, rfl, rfl⟩ := hN.form2
                  refine ⟨rfl, opwp_app 25 rfl 27 i0 (.agg #[.int .i64 0, .int .i64 0, .int .u64 0, .string ⟨#[]⟩, .slice none 0 0, .slice none 0 0]) 6 88 Tryz.underlying25 hi hz0 hz1 hz2 rfl (by decide) (.slice Al acc.length cl) acc.length xs e43 hKw.r ⟨ge, 0, none⟩ 1 1 [.int .i64 kd1, .int .i64 nn1, .int .u64 uu1, .string s1, .slice B1 m1 d1, .slice B2 m2 d2] e48 rfl (row_at hgr) six_one H63 HBY ?_⟩
                  intro v' w3 ho3 hg hwh
                  obtain ⟨A', c', rfl⟩ := owns_ptr ho3
                  have hK3 := Kids.push (lk := R) hK (by omega) ht hN hnd hge hLv (Below.refl _ w) hg ho3 hwh
                  have hown : ∀ i, (Value.slice Al acc.length cl).ownBlock = some i → Lb ≤ i := fun i hi => hK.ge i (by simp [mem_blk, hi])
                  have three : ∀ i, i < w.heap.size → i < Lb → w3.heap[i]? = w.heap[i]? := fun i hi hn => hg.block i hi (fun e => by have := hown i e.symm; omega)
                  refine ⟨_, rfl, hT.trans ⟨hg.os, hg.tape, hg.output, hg.size, fun i hi hn => three i (by omega) (by omega)⟩, Nat.le_trans hzw hg.size, fun p hp => (three p.1 (hEl p hp) (hEx p hp).2.1).trans (hEw p hp), hMw.same (three M hMl hM.2.1), .inr ⟨h3, h4, hd10, T, t3, m, A, c, hr3, hp3.same (three R hRw (by omega)), e41, (fun h => by simp at h), fun _ => ⟨hd11, A', c', _, _, rfl, hK3, ?_⟩⟩⟩
                  rw [if_neg (show ¬ ((fun j => if j = 12 then true else D j) 14 = true) by show ¬ (D 14 = true); rw [h14]; decide), if_neg (show ¬ ((fun j => if j = 12 then true else D j) 16 = true) by show ¬ (D 16 = true); rw [h16]; decide)]
                  exact (three O hOw hOL).trans ho
                · simp only [List.getElem?_toArray, List.getElem?_cons_zero, List.getElem?_cons_succ, Option.some.injEq] at hjq
                  subst hjq
                  have hd12 : D 12 = true := hall _ (Array.getElem_mem (i := 2) (by decide)) rfl
                  rcases hS with ⟨-, -, h12, -⟩ | ⟨h3, h4, h10, T, t3, m, A, c, hr3, hp3, e41, -, hBB⟩
                  case inl => rw [h12] at hd12; cases hd12
                  obtain ⟨hd11, A2, c2, xs2, bl2, e49, hK, ho⟩ := hBB hd12
                  rw [if_neg (by rw [hDi]; decide)] at ho
                  have e50 : a.eval (.tmp 50) = .pointer (some ⟨O, 4, none⟩) := hk 50 (by decide) _ rfl
                  have hne : ∀ i, i ≠ O → (w.setCell ⟨O, 4, none⟩ (.slice A (ks.length + 1) c)).heap[i]? = w.heap[i]? := fun i hi => heap_setCell_other _ _ _ _ hi
                  have hrow := heap_setCell_same w O 4 _ _ (.slice A (ks.length + 1) c) ho
                  refine ⟨rfl, opwp_stT rfl rfl e50 e41 (cell_of_row _ _ _ _ _ _ ho) (frozen_of_row _ _ _ _ _ ho) ⟨undef, rfl, hT.setCell (p := ⟨O, 4, none⟩) hO _, by simpa using hzw, fun p hp => (hne p.1 (hEx p hp).2.2.1).trans (hEw p hp), hMw.same (hne M hM.2.2), .inr ⟨h3, h4, h10, T, t3, m, A, c, hr3, hp3.same (hne R (by omega)), e41, (fun h => by rw [show D 12 = false from h] at hd12; cases hd12), fun _ => ⟨hd11, A2, c2, xs2, bl2, e49, hK.same fun i hi => hne i (by have := hK.ge i hi; omega), ?_⟩⟩⟩⟩
                  rw [if_pos (show ((fun j => if j = 14 then true else D j) 14) = true from rfl)]
                  exact hrow
                · simp only [List.getElem?_toArray, List.getElem?_cons_zero, List.getElem?_cons_succ, Option.some.injEq] at hjq
                  subst hjq
                  have hd14 : D 14 = true := hall _ (Array.getElem_mem (i := 2) (by decide)) rfl
                  have hd12 : D 12 = true := hall _ (Array.getElem_mem (i := 1) (by decide)) rfl
                  rcases hS with ⟨-, -, h12, -⟩ | ⟨h3, h4, h10, T, t3, m, A, c, hr3, hp3, e41, -, hBB⟩
                  case inl => rw [h12] at hd12; cases hd12
                  obtain ⟨hd11, A2, c2, xs2, bl2, e49, hK, ho⟩ := hBB hd12
                  rw [if_pos hd14, if_neg (by rw [hDi]; decide)] at ho
                  have e51 : a.eval (.tmp 51) = .pointer (some ⟨O, 5, none⟩) := hk 51 (by decide) _ rfl
                  have hne : ∀ i, i ≠ O → (w.setCell ⟨O, 5, none⟩ (.slice A2 (acc.length + 1) c2)).heap[i]? = w.heap[i]? := fun i hi => heap_setCell_other _ _ _ _ hi
                  have hrow := heap_setCell_same w O 5 _ _ (.slice A2 (acc.length + 1) c2) ho
                  refine ⟨rfl, opwp_stL rfl rfl e51 e49 (cell_of_row _ _ _ _ _ _ ho) (frozen_of_row _ _ _ _ _ ho) ⟨undef, rfl, hT.setCell (p := ⟨O, 5, none⟩) hO _, by simpa using hzw, fun p hp => (hne p.1 (hEx p hp).2.2.1).trans (hEw p hp), hMw.same (hne M hM.2.2), .inr ⟨h3, h4, h10, T, t3, m, A, c, hr3, hp3.same (hne R (by omega)), e41, (fun h => by rw [show D 12 = false from h] at hd12; cases hd12), fun _ => ⟨hd11, A2, c2, xs2, bl2, e49, hK.same fun i hi => hne i (by have := hK.ge i hi; omega), ?_⟩⟩⟩⟩
                  rw [if_pos (show ((fun j => if j = 16 then true else D j) 14) = true from hd14), if_pos (show ((fun j => if j = 16 then true else D j) 16) = true from rfl)]
                  exact hrow
              · intro D a w had hn' hDD hl' h0 hS
                obtain ⟨hT, hzw, hEw, hMw, ⟨h10, -⟩ | ⟨h3, h4, h10, T, t3, m, A, c, hr3, hp3, e41, -, hBB⟩⟩ := hS
                · have := hDD 10 (by decide)
                  rw [h10] at this
                  cases this
                obtain ⟨hd11, A2, c2, xs2, bl2, e49, hK, ho⟩ := hBB (hDD 12 (by decide))
                rw [if_pos (hDD 14 (by decide)), if_pos (hDD 16 (by decide))] at ho
                subst hr3
                have hfin : OneP B R s (MJ O Lb M E) acc wr res (.returned (.tuple #[])) w := by
                  rw [← hres]
                  exact ⟨HT2.out.trans hT, rfl, hp3, ⟨⟨_, _, _, _, hEw, ho, hK⟩, by rw [hadI_snoc]; exact hMw, by rw [List.length_append, List.length_append, hkn]; rfl⟩⟩
                exact ⟨had, .tuple #[], by simp [results, Tryz.results91], hfin⟩
          · rw [if_neg h6] at hh
            obtain ⟨rfl, rfl⟩ := hh
            have hfin : OneP B R s (MJ O Lb M E) acc wr res (.panicked (panV (t1.from_, 100))) w1 := by
              rw [← HRES1.out, if_pos h6]
              exact ⟨HT1.out, rfl⟩
            exact ⟨rfl, hfin⟩
  · have e1 : (tk.kind == 12) = false := by simp [h1]
    rw [if_pos (show tk.kind ≠ 12 from h1)] at hres
    refine wp_region_stage (n := 52) (lightN R A0 tk.kind) [7] (fun D _ w => Below wr.heap.size wr w ∧ D 7 = false) (by kernel_rfl) (by kernel_rfl) rfl (fun D D' _ _ w h _ hs => ⟨hs.1, by rw [← h 7 (by decide)]; exact hs.2⟩) ?_ ⟨(Below.refl _ _).drew, rfl⟩ ?_ ?_ ?_ ?_
    · intro t V hl ht
      unfold lightN at hl
      split at hl
      · cases hl; rfl
      · exact absurd rfl (ht 0 _ rfl)
      · exact absurd rfl (ht 1 _ rfl)
      · exact absurd rfl (ht 2 _ rfl)
      · exact absurd rfl (ht 3 _ rfl)
      · exact absurd rfl (ht 4 _ rfl)
      · exact absurd rfl (ht 5 _ rfl)
      · exact absurd rfl (ht 6 _ rfl)
      · cases hl
    · intro jq oq hjq hns
      match jq, hjq, hns with
      | 0, hjq, _ =>
        simp only [List.getElem?_toArray, List.getElem?_cons_zero, List.getElem?_cons_succ, Option.some.injEq] at hjq
        subst hjq
        exact ⟨10, _, rfl, rfl, fun D a w hS hall hDi hcl hk => ⟨rfl, opwp_ldP rfl (hk 0 (by decide) _ rfl) ((hS.1.cell (p := ⟨A0, 0, none⟩) (lt_cell q0)).trans q0) ⟨rfl, rfl⟩⟩⟩
      | 1, hjq, _ =>
        simp only [List.getElem?_toArray, List.getElem?_cons_zero, List.getElem?_cons_succ, Option.some.injEq] at hjq
        subst hjq
        exact ⟨11, _, rfl, rfl, fun D a w hS hall hDi hcl hk => ⟨rfl, opwp_ldP rfl (hk 0 (by decide) _ rfl) ((hS.1.cell (p := ⟨A0, 0, none⟩) (lt_cell q0)).trans q0) ⟨rfl, rfl⟩⟩⟩
      | 2, hjq, _ =>
        simp only [List.getElem?_toArray, List.getElem?_cons_zero, List.getElem?_cons_succ, Option.some.injEq] at hjq
        subst hjq
        exact ⟨12, _, rfl, rfl, fun D a w hS hall hDi hcl hk => ⟨rfl, opwp_nc rfl (hk 11 (by decide) _ rfl) ⟨rfl, rfl⟩⟩⟩
      | 3, hjq, _ =>
        simp only [List.getElem?_toArray, List.getElem?_cons_zero, List.getElem?_cons_succ, Option.some.injEq] at hjq
        subst hjq
        exact ⟨13, _, rfl, rfl, fun D a w hS hall hDi hcl hk => ⟨rfl, opwp_faR1 rfl (hk 12 (by decide) _ rfl) ⟨rfl, rfl⟩⟩⟩
      | 4, hjq, _ =>
        simp only [List.getElem?_toArray, List.getElem?_cons_zero, List.getElem?_cons_succ, Option.some.injEq] at hjq
        subst hjq
        exact ⟨14, _, rfl, rfl, fun D a w hS hall hDi hcl hk => ⟨rfl, opwp_faK0 rfl (hk 13 (by decide) _ rfl) ⟨rfl, rfl⟩⟩⟩
      | 5, hjq, _ =>
        simp only [List.getElem?_toArray, List.getElem?_cons_zero, List.getElem?_cons_succ, Option.some.injEq] at hjq
        subst hjq
        exact ⟨15, _, rfl, rfl, fun D a w hS hall hDi hcl hk => ⟨rfl, opwp_ldI rfl (hk 14 (by decide) _ rfl) ((hS.1.cell (p := ⟨R, 1, none⟩) (lt_cell c1)).trans c1) ⟨rfl, rfl⟩⟩⟩
      | 6, hjq, _ =>
        simp only [List.getElem?_toArray, List.getElem?_cons_zero, List.getElem?_cons_succ, Option.some.injEq] at hjq
        subst hjq
        exact ⟨16, _, rfl, rfl, fun D a w hS hall hDi hcl hk => ⟨rfl, opwp_eqI rfl (hk 15 (by decide) _ rfl) ⟨rfl, rfl⟩⟩⟩
      | 7, _, h => exact absurd (by decide) h
      | kq + 8, hjq, _ => cases hjq
    · intro jq oq hjq hsp d hd
      simp only [List.mem_cons, List.not_mem_nil, or_false] at hsp
      subst hsp
      simp only [List.getElem?_toArray, List.getElem?_cons_zero, List.getElem?_cons_succ, Option.some.injEq] at hjq
      subst hjq
      cases hd
      rfl
    · intro jq oq hjq hsp D a w had hS hall hDi hcl hk
      simp only [List.mem_cons, List.not_mem_nil, or_false] at hsp
      subst hsp
      simp only [List.getElem?_toArray, List.getElem?_cons_zero, List.getElem?_cons_succ, Option.some.injEq] at hjq
      subst hjq
      have e10 : a.eval (.tmp 10) = .pointer (some ⟨R, 0, none⟩) := hk 10 (by decide) _ rfl
      have e16 : a.eval (.tmp 16) = .bool (tk.kind == 12) := hk 16 (by decide) _ rfl
      have hc : a.eval (.const (.int .i64 100)) = .int .i64 100 := rfl
      refine ⟨rfl, ?_⟩
      unfold Oper.wp
      rw [exec_call [a.eval (.tmp 10), a.eval (.tmp 16), .int .i64 100] Tryz.func28 (by kernel_rfl) rfl rfl rfl, Oper.upon_enter, e10, e16, e1]
      refine (need_no s tk many R 100 w (HE.out.p.below hS.1)).mono ?_
      rintro o w' ⟨rfl, rfl⟩
      have hfin : OneP B R s (MJ O Lb M E) acc wr res (.panicked (panV (tk.from_, 100))) w := by
        rw [← hres]
        exact ⟨(Touch.quiet hS.1).tch HE.out.b, rfl⟩
      exact ⟨had, hfin⟩
    · intro D a w had hn' hDD hl h0 hS
      have := hDD 7 (by decide)
      rw [hS.2] at this
      cases this
/-- The blocks of a map that stand. -/
def memE (B R : Nat) (dp : Int) : List (Nat × Obj) := [(B, .cells #[.pointer (some ⟨R, 0, none⟩)] 58 (0, 0)), (B + 1, .cells #[.int .i64 dp] 3 (0, 0)), (B + 2, .cells zC.toArray 27 (0, 0)), (B + 5, .cells #[.map (some (B + 4))] 142 (0, 0))]
theorem memE_lt {B R : Nat} {dp : Int} : ∀ p ∈ memE B R dp, B ≤ p.1 ∧ p.1 < B + 6 ∧ p.1 ≠ B + 3 ∧ p.1 ≠ B + 4 := by
  intro p hp
  simp only [memE, List.mem_cons, List.not_mem_nil, or_false] at hp
  rcases hp with rfl | rfl | rfl | rfl <;> exact ⟨by simp, by simp, by simp, by simp⟩
set_option maxHeartbeats 16000000 in
set_option maxRecDepth 100000 in
theorem members_any (s : List UInt8) (hl : s.length ≤ 1073741824) (R : Nat) (dp : Int) (hd0 : 0 ≤ dp) (hd1 : dp ≤ 63) (hGR : Gb R) (g : Nat) (HV : ∀ g', g' < g → ValC s g')
    (w : World) (tk : Tok) (many : Int) (hP : PRow w R s tk many) (hGl : Glb w) (hm0 : 0 ≤ many) (hm : many ≤ 4096) (hf : 2 * (4096 - many) + 2 ≤ g) :
    Calls Tryz.prog 56 #[.pointer (some ⟨R, 0, none⟩), .int .i64 dp] w (ManyPost 17 w R s (manyR s g true dp tk many)) := by
  have hR := hP.lt
  have HP := Lib.hid hP
  have HGL := Lib.hid hGl
  have HVV := Lib.hid HV
  clear hP hGl HV
  have hmf : ∀ (fn : Fn) (first cap : Array Value) (w : World), (Instr.makeFunc fn first cap).run Tryz.prog w = .ok (.func fn first cap) w := fun _ _ _ _ => rfl
  have hmm := @run_makeMap Tryz.prog
  go_enter Tryz.func56, Tryz.ntmps56
  go_upto_region 3 with fail
  clear hmm
  obtain ⟨wm, hwm⟩ : ∃ wm, wm = (((w.alloc (.cells #[.pointer (some ⟨R, 0, none⟩)] 58)).alloc (.cells #[.int .i64 dp] 3)).alloc (.cells zC.toArray 27)).alloc (.cells (outC 17 (.slice none 0 0) (.slice none 0 0)) 27) := ⟨_, rfl⟩
  have h4 := alloc4 w (.cells #[.pointer (some ⟨R, 0, none⟩)] 58) (.cells #[.int .i64 dp] 3) (.cells zC.toArray 27) (.cells (outC 17 (.slice none 0 0) (.slice none 0 0)) 27)
  rw [← hwm] at h4
  have hzm : wm.heap.size = w.heap.size + 4 := by rw [hwm]; simp
  have hbm : Below w.heap.size w wm := by rw [hwm]; exact zw
  refine wp_named (fun wn => Below w.heap.size w wn ∧ wn.heap.size = w.heap.size + 6 ∧ (∀ i, i < w.heap.size + 4 → wn.heap[i]? = wm.heap[i]?) ∧ MapIs Tryz.prog 9 wn (w.heap.size + 4) (hadI []) ∧ wn.heap[w.heap.size + 5]? = some (.cells #[.map (some (w.heap.size + 4))] 142 (0, 0))) ⟨by exact zw, by simp, ?_, ?_, ?_⟩ ?_
  · intro i hi
    rw [hwm]
    exact (Below.heap_alloc _ _ i (by simp; omega)).trans (Below.heap_alloc _ _ i (by simp; omega))
  · have hM := MapIs.made (P := Tryz.prog) (k := 9) wm
    rw [hzm] at hM
    have e : hadI [] = fun _ => none := by funext y; rfl
    rw [e]
    have hq := hM.same (w' := (wm.alloc (.map #[] 0)).alloc (.cells #[.map (some (w.heap.size + 4))] 142)) (Below.heap_alloc _ _ _ (by rw [World.size_alloc]; omega))
    rw [hwm] at hq
    exact hq
  · have hq := heap_alloc_new (wm.alloc (.map #[] 0)) (.cells #[.map (some (w.heap.size + 4))] 142)
    rw [World.size_alloc, hzm, hwm] at hq
    exact hq
  rintro wn ⟨hb, hz, hold, hMn, hHn⟩
  have h0 := (hold w.heap.size (by omega)).trans h4.1
  have h1 := (hold (w.heap.size + 1) (by omega)).trans h4.2.1
  have h2 := (hold (w.heap.size + 2) (by omega)).trans h4.2.2.1
  have h3 := (hold (w.heap.size + 3) (by omega)).trans h4.2.2.2
  clear hold h4 hzm hbm hwm
  have hPn := HP.out.below (hb.mono (Nat.le_refl _))
  have c0 : wn.cell? ⟨w.heap.size, 0, none⟩ = some (.pointer (some ⟨R, 0, none⟩)) := cell_of_row _ _ _ _ _ _ h0
  have hJ0 : MJ (w.heap.size + 3) (w.heap.size + 6) (w.heap.size + 4) (memE w.heap.size R dp) [] [] wn := by
    refine ⟨⟨_, _, _, _, fun p hp => ?_, h3, kids_nil _ _⟩, hMn, rfl⟩
    simp only [memE, List.mem_cons, List.not_mem_nil, or_false] at hp
    rcases hp with rfl | rfl | rfl | rfl
    · exact h0
    · exact h1
    · exact h2
    · exact hHn
  have hGn : Glb wn := HGL.out.below hb (hGR.mono (Nat.le_of_lt hR))
  have hE := each_m s R w.heap.size g (dp + 1) w.heap.size (w.heap.size + 5) (w.heap.size + 3) (w.heap.size + 1) (MJ (w.heap.size + 3) (w.heap.size + 6) (w.heap.size + 4) (memE w.heap.size R dp)) (fun ks acc W W' ht h => MJ.ok ⟨by omega, by omega, fun p hp => by have := memE_lt p hp; omega⟩ (by omega) ks acc W W' ht h) hl hR hGR wn hGn
    (fun g' W t m ks acc hg hE h0 h1 h2 => members1_any s hl R w.heap.size w.heap.size (w.heap.size + 1) (w.heap.size + 5) (w.heap.size + 4) (w.heap.size + 3) (w.heap.size + 6) (memE w.heap.size R dp) dp hR (by omega) (by omega) (fun p hp => by have := memE_lt p hp; omega) ⟨by omega, by omega, by omega⟩ (by simp [memE]) (by simp [memE]) (by simp [memE]) hd0 hd1 hGR g' (HVV.out g' hg) wn W t m ks acc hE (by have := hE.f.size; omega) (hE.glb hGn hGR hR) h0 h1 h2)
    tk many g [] [] hPn hJ0 (by omega) (by simpa using hm0) (Nat.le_refl _) hm0 hm hf
  have HE : Hid (Calls Tryz.prog 89 #[.pointer (some ⟨R, 0, none⟩), .int .i64 2, .func (.func 91) #[] #[.pointer (some ⟨w.heap.size, 0, none⟩), .pointer (some ⟨w.heap.size + 5, 0, none⟩), .pointer (some ⟨w.heap.size + 3, 0, none⟩), .pointer (some ⟨w.heap.size + 1, 0, none⟩)]] wn (EachPost w.heap.size R s (MJ (w.heap.size + 3) (w.heap.size + 6) (w.heap.size + 4) (memE w.heap.size R dp)) wn (manyR s g true dp tk many))) := Lib.hid hE
  have HB := Lib.hid hb
  clear hE hJ0 hGn hPn hb h0 h1 h2 h3 hz hMn hHn
  generalize manyR s g true dp tk many = res at *
  go_wp2_with fail
  refine HE.out.mono ?_
  rintro o w1 ⟨ht, hr⟩
  have hT : Touch [R] w w1 := by
    have h1 : Tch w.heap.size [R] w w1 := (Touch.quiet HB.out).tch (Nat.le_refl _) |>.trans ht
    exact h1.touch
  cases res with
  | error x =>
    obtain rfl := hr
    exact ⟨rfl, hT, rfl⟩
  | ok p =>
    obtain ⟨ks, l, t1, m⟩ := p
    obtain ⟨rfl, hp1, ⟨kv, lv, xs, bl, hj⟩, -, -⟩ := hr
    obtain ⟨Ak, ck, rfl⟩ := owns_ptr hj.k.k
    obtain ⟨Al, cl, rfl⟩ := owns_ptr hj.k.r
    have hx : w1.heap[w.heap.size + 1 + 1]? = some (.cells zC.toArray 27 (0, 0)) := hj.e (w.heap.size + 2, _) (by simp [memE])
    have ho : w1.heap[w.heap.size + 1 + 1 + 1]? = some (.cells (outC 17 (.slice Ak ks.length ck) (.slice Al l.length cl)) 27 (0, 0)) := hj.o
    obtain ⟨n0, n1, n2, n3, n4, n5⟩ := cells6 ho
    obtain ⟨y0, y1, y2, y3, y4, y5⟩ := cells6 hx
    have f0 : w1.frozen? ⟨w.heap.size + 1 + 1, 0, none⟩ = false := frozen_of_row _ _ _ _ _ hx
    have f1 : w1.frozen? ⟨w.heap.size + 1 + 1, 1, none⟩ = false := frozen_of_row _ _ _ _ _ hx
    have f2 : w1.frozen? ⟨w.heap.size + 1 + 1, 2, none⟩ = false := frozen_of_row _ _ _ _ _ hx
    have f3 : w1.frozen? ⟨w.heap.size + 1 + 1, 3, none⟩ = false := frozen_of_row _ _ _ _ _ hx
    have f4 : w1.frozen? ⟨w.heap.size + 1 + 1, 4, none⟩ = false := frozen_of_row _ _ _ _ _ hx
    have f5 : w1.frozen? ⟨w.heap.size + 1 + 1, 5, none⟩ = false := frozen_of_row _ _ _ _ _ hx
    have HK := Lib.hid hj.k
    have HP1 := Lib.hid hp1
    have HT := Lib.hid hT
    clear hj hp1 hT ht hx ho HE HB HP HGL HVV c0
    go_wp2_with fail
    have hoth : ∀ i, i ≠ w.heap.size + 1 + 1 → ((((((w1.setCell ⟨w.heap.size + 1 + 1, 0, none⟩ (.int .i64 17)).setCell ⟨w.heap.size + 1 + 1, 1, none⟩ (.int .i64 0)).setCell ⟨w.heap.size + 1 + 1, 2, none⟩ (.int .u64 0)).setCell ⟨w.heap.size + 1 + 1, 3, none⟩ (.string ⟨#[]⟩)).setCell ⟨w.heap.size + 1 + 1, 4, none⟩ (.slice Ak ks.length ck)).setCell ⟨w.heap.size + 1 + 1, 5, none⟩ (.slice Al l.length cl)).heap[i]? = w1.heap[i]? := by
      intro i hne
      rw [heap_setCell_other _ _ _ _ hne, heap_setCell_other _ _ _ _ hne, heap_setCell_other _ _ _ _ hne, heap_setCell_other _ _ _ _ hne, heap_setCell_other _ _ _ _ hne, heap_setCell_other _ _ _ _ hne]
    (refine bodyPost_ret (v := .agg #[.int .i64 17, .int .i64 0, .int .u64 0, .string ⟨#[]⟩, .slice Ak ks.length ck, .slice Al l.length cl]) (by simp [results, Tryz.results56, go_sem, *]) rfl ?_)
    refine ⟨six_over HT.out (Z := w.heap.size + 1 + 1) (by omega) _ _ _ _ _ _, HP1.out.same (hoth R (by omega)), _, rfl, (Kids.fresh HK.out (fun i hi => hoth i (by have := HK.out.ge i hi; omega)) _ _ _ _).mono (by omega)⟩
end Go.Proofs.YtccmhhmdenfecaaGreatDoor
