/- The walks of strings.Builder in a block of its own (R): copyCheck, WriteString, WriteRune, String; other blocks stand. -/
import Derived.Test.YtgdhepoffnpgiaaDoorLb
namespace Go.Proofs.YtgdhepoffnpgiaaDoor
set_option linter.unusedVariables false
set_option linter.unusedSimpArgs false
set_option linter.unusedSectionVars false
open Go.RowKit Go.Shelf
/-- The builder lies in the block R; its text o in a row of its own, at B or above. -/
structure BOk (B : Nat) (w : World) (R : Nat) (o : List UInt8) (addr buf : Value) : Prop where
  hB : B ≤ R
  row : w.heap[R]? = some (.cells #[addr, buf] 102 (0, 0))
  ad : addr = .pointer none ∨ addr = .pointer (some ⟨R, 0, none⟩)
  own : w.ownsRow B 5 1 buf o.length (Lib.byteCells o)
  ne : buf.ownBlock ≠ some R
/-- Every block but the builder's and its text's stands. -/
def Oth (R : Nat) (buf : Value) (w w' : World) : Prop := ∀ k, k < w.heap.size → k ≠ R → buf.ownBlock ≠ some k → w'.heap[k]? = w.heap[k]?
theorem cellB {w : World} {Y : Nat} {v0 v1 : Value} {ty : TypeId} (h : w.heap[Y]? = some (.cells #[v0, v1] ty (0, 0))) :
    w.cell? ⟨Y, 0, none⟩ = some v0 ∧ w.cell? ⟨Y, 1, none⟩ = some v1 ∧ (∀ i, w.frozen? ⟨Y, i, none⟩ = false) := by
  refine ⟨?_, ?_, fun i => ?_⟩
  all_goals first | (rw [Lib.cell_of_heap h]; rfl) | exact Lib.frozen_of_heap h i
theorem liesB0 : liesAt Tryd.prog Tryd.prog.depth 102 (2 / Tryd.prog.cellsOf 102) 0 102 1 = true := by kernel_rfl
theorem bcopy_fresh (R : Nat) (w : World) (h0 : w.cell? ⟨R, 0, none⟩ = some (.pointer none)) (hsh : w.shape? R = some (102, 2)) (hfz : w.frozen? ⟨R, 0, none⟩ = false) :
    Calls Tryd.prog 84 #[.pointer (some ⟨R, 0, none⟩)] w fun e w' => e = .returned (.tuple #[]) ∧ w' = w.setCell ⟨R, 0, none⟩ (.pointer (some ⟨R, 0, none⟩)) := by
  obtain ⟨j, hj, hjs⟩ := Option.map_eq_some_iff.1 sizeB
  have e1 := Lib.run_to_unsafe (P := Tryd.prog) w ⟨R, 0, none⟩ Tryd.underlying100 Tryd.underlying148 hj (by rw [hjs]; decide) hsh (show 0 < 2 by decide)
  have e2 := Lib.run_from_unsafe (P := Tryd.prog) w ⟨R, 0, none⟩ Tryd.underlying148 Tryd.underlying100 hj hsh liesB0
  have e3 : (callFunc 108 #[.pointer (some ⟨R, 0, none⟩)]).run Tryd.prog w = .ok (.value (.pointer (some ⟨R, 0, none⟩))) w := by
    rw [run_callFunc_extern Tryd.func108 (by kernel_rfl) (by kernel_rfl) (by kernel_rfl) (e := Extern.AbiNoEscape.same) (by kernel_rfl), Lib.run_noEscape]
    rfl
  clear hj hjs
  go_enter Tryd.func84, Tryd.ntmps84
  go_wp2
  go_end0
  exact ⟨rfl, rfl⟩
theorem bcopy_used (R : Nat) (w : World) (h0 : w.cell? ⟨R, 0, none⟩ = some (.pointer (some ⟨R, 0, none⟩))) :
    Calls Tryd.prog 84 #[.pointer (some ⟨R, 0, none⟩)] w fun e w' => e = .returned (.tuple #[]) ∧ w' = w := by
  obtain ⟨j, hj, -⟩ := Option.map_eq_some_iff.1 sizeB
  have e1 := Lib.run_neq_ptr_same (P := Tryd.prog) w ⟨R, 0, none⟩ Tryd.underlying100 hj
  clear hj
  go_enter Tryd.func84, Tryd.ntmps84
  go_wp2
  go_end0
  exact ⟨rfl, rfl⟩
section
variable {B R : Nat} {w : World} {o : List UInt8} {addr buf : Value}
theorem BOk.lt (h : BOk B w R o addr buf) : R < w.heap.size := row_lt h.row
/-- Where all blocks but others' stand, the builder stands. -/
theorem BOk.to {w' : World} (h : BOk B w R o addr buf) (hk : ∀ k, k = R ∨ buf.ownBlock = some k → k < w.heap.size → w'.heap[k]? = w.heap[k]?) : BOk B w' R o addr buf := by
  refine ⟨h.hB, (hk R (.inl rfl) h.lt).trans h.row, h.ad, ?_, h.ne⟩
  refine ⟨h.own.1, ?_⟩
  rcases h.own.2 with hn | ⟨g, c, cur, e, hb, hg, rest⟩
  · exact .inl hn
  · exact .inr ⟨g, c, cur, e, hb, (hk g (.inr (by rw [e]; rfl)) (row_lt hg)).trans hg, rest⟩
theorem BOk.alloc (h : BOk B w R o addr buf) (x : Obj) : BOk B (w.alloc x) R o addr buf := h.to (fun k _ hk => Lib.alloc_old w x k hk)
theorem BOk.drew (h : BOk B w R o addr buf) : BOk B w.drew R o addr buf := ⟨h.hB, h.row, h.ad, h.own, h.ne⟩
theorem BOk.below {w' : World} (h : BOk B w R o addr buf) (hb : Below w.heap.size w w') : BOk B w' R o addr buf := h.to (fun k _ hk => hb.block k hk)
theorem Oth.refl (R : Nat) (buf : Value) (w : World) : Oth R buf w w := fun _ _ _ _ => rfl
theorem bcheck_any (h : BOk B w R o addr buf) :
    Calls Tryd.prog 84 #[.pointer (some ⟨R, 0, none⟩)] w fun e w' => e = .returned (.tuple #[]) ∧ BOk B w' R o (.pointer (some ⟨R, 0, none⟩)) buf ∧ Below B w w' ∧ Oth R buf w w' := by
  obtain ⟨c0, c1, cf⟩ := cellB h.row
  rcases h.ad with rfl | rfl
  · refine (bcopy_fresh R w c0 (by simp [World.shape?, h.row]) (cf 0)).mono ?_
    rintro e w' ⟨rfl, rfl⟩
    exact ⟨rfl, ⟨h.hB, row_set 0 _ h.row, .inr rfl, owns_set h.own h.ne, h.ne⟩, (Below.refl B w).setCell (p := ⟨R, 0, none⟩) h.hB _, fun k _ hk _ => Below.heap_setCell _ _ _ _ (by simpa using fun e => hk e)⟩
  · refine (bcopy_used R w c0).mono ?_
    rintro e w' ⟨rfl, rfl⟩
    exact ⟨rfl, h, Below.refl _ _, Oth.refl _ _ _⟩
set_option maxHeartbeats 1000000 in
set_option maxRecDepth 100000 in
theorem bwriteS_any (s : List UInt8) (hs : s.length ≤ 1048576) (hl : o.length ≤ 1099511627776) (h : BOk B w R o addr buf) :
    Calls Tryd.prog 65 #[.pointer (some ⟨R, 0, none⟩), strV s] w fun e w' => e = .returned (.tuple #[.int .i64 s.length, .nilIface]) ∧ (∃ buf', BOk B w' R (o ++ s) (.pointer (some ⟨R, 0, none⟩)) buf') ∧ Below B w w' ∧ Oth R buf w w' := by
  obtain ⟨i0, hi, hz0, hz1, hz2⟩ := info_parts (Builder.Extra.infoByte Tryd.Builder_Extra_169)
  have HC := bcheck_any h
  have hBR := h.hB
  have hRw := h.lt
  have hsz : (⟨s.toArray⟩ : ByteArray).size = s.length := by simp [ByteArray.size]
  clear h
  unfold strV
  go_enter Tryd.func65, Tryd.ntmps65
  go_wp2_with (go_at_call 84; refine HC.mono ?_)
  rintro e w1 ⟨rfl, h1, hb1, ho1⟩
  obtain ⟨c0, c1, cf⟩ := cellB h1.row
  have hsz1 := hb1.size
  have hlt1 := h1.lt
  go_wp2_with (at_builtin; refine Lib.wpList_append_own_string _ rfl _ _ 90 9 rfl B 5 i0 Tryd.underlying90 Tryd.underlying9 hi hz0 hz1 hz2 _ _ _ rfl h1.own _ rfl ?c3 ?c4 ?c5 ?_)
  case c3 => unfold maxLen; omega
  case c4 => omega
  case c5 => omega
  intro v' w2 hown' hgrow _
  have hb2 : w2.heap[R]? = some (.cells #[.pointer (some ⟨R, 0, none⟩), buf] 102 (0, 0)) := by
    rw [hgrow.block R hlt1 (fun e => h1.ne e.symm)]
    exact h1.row
  obtain ⟨d0, d1, df⟩ := cellB hb2
  have f1 := df 1
  have hne' : v'.ownBlock ≠ some R := Lib.ownBlock_ne hown' hb2 (by decide)
  obtain ⟨ao, n', cap, rfl⟩ : ∃ ao n' cap, v' = .slice ao n' cap := by
    rcases hown'.2 with ⟨hv, _⟩ | ⟨g, cap, cur, hv, _⟩
    · exact ⟨_, _, _, hv⟩
    · exact ⟨_, _, _, hv⟩
  have hoth : Oth R buf w (w2.setCell ⟨R, 1, none⟩ (.slice ao n' cap)) := fun k hk hkR hkb => by
    rw [Below.heap_setCell _ _ _ _ (by simpa using fun e => hkR e), hgrow.block k (by omega) (fun e => hkb e.symm)]
    exact ho1 k hk hkR hkb
  have HO := Lib.hid hoth
  clear df cf hoth
  go_wp2
  go_ret2
  refine ⟨by rw [← hsz]; rfl, ⟨_, hBR, row_set 1 _ hb2, .inr rfl, ?_, hne'⟩, ?_, HO.out⟩
  · refine owns_set ?_ hne'
    rw [Lib.strCells_eq, ← Lib.byteCells_append, ← List.length_append] at hown'
    exact hown'
  · exact (hb1.grown hgrow (by omega) (fun k hk => (h1.own.lt k hk).1)).setCell (p := ⟨R, 1, none⟩) hBR _
theorem BOk.slice (h : BOk B w R o addr buf) : ∃ ao cap, buf = .slice ao o.length cap := by
  rcases h.own.2 with ⟨hv, h0⟩ | ⟨g, cap, cur, hv, _⟩
  · exact ⟨none, 0, by rw [hv, h0]⟩
  · exact ⟨_, _, hv⟩
set_option maxHeartbeats 1000000 in
set_option maxRecDepth 100000 in
theorem bwriteR_any (x : Int) (hx0 : 0 ≤ x) (hx1 : x ≤ 2147483647) (hl : o.length ≤ 1099511627776) (h : BOk B w R o addr buf) :
    Calls Tryd.prog 63 #[.pointer (some ⟨R, 0, none⟩), .int .i32 x] w fun e w' => (∃ v, e = .returned v) ∧ (∃ buf', BOk B w' R (o ++ Lib.encodeRune x) (.pointer (some ⟨R, 0, none⟩)) buf') ∧ Below B w w' ∧ Oth R buf w w' := by
  have HC := bcheck_any h
  have hBR := h.hB
  have hRw := h.lt
  clear h
  go_enter Tryd.func63, Tryd.ntmps63
  go_wp2_with (go_at_call 84; refine HC.mono ?_)
  rintro e w1 ⟨rfl, h1, hb1, ho1⟩
  obtain ⟨ao, cap, rfl⟩ := h1.slice
  obtain ⟨c0, c1, cf⟩ := cellB h1.row
  have hsz1 := hb1.size
  have hlt1 := h1.lt
  go_wp2_with fail
  refine (Tryd.utf8_AppendRune_plain B _ o.length _ x (by omega) hx1 _ h1.own (by omega) (by omega)).mono ?_
  rintro e w2 ⟨v', rfl, hown', ob, hgrow⟩
  have hb2 : w2.heap[R]? = some (.cells #[.pointer (some ⟨R, 0, none⟩), .slice ao o.length cap] 102 (0, 0)) := by
    rw [hgrow.block R (by simp; omega) (fun e => h1.ne e.symm), Lib.alloc_old w1 _ R hlt1]
    exact h1.row
  have hne' : v'.ownBlock ≠ some R := Lib.ownBlock_ne hown' hb2 (by decide)
  obtain ⟨ao', n', cap', rfl⟩ : ∃ ao n' cap, v' = .slice ao n' cap := by
    rcases hown'.2 with ⟨hv, _⟩ | ⟨g, cap, cur, hv, _⟩
    · exact ⟨_, _, _, hv⟩
    · exact ⟨_, _, _, hv⟩
  obtain ⟨d0, d1, df⟩ := cellB hb2
  have f1 := df 1
  have hlen : Lib.byteCells o ++ Lib.runeCells x = Lib.byteCells (o ++ Lib.encodeRune x) := by
    rw [Lib.byteCells_append, Lib.byteCells_encodeRune]
  have hln : (Lib.runeCells x).length = (Lib.encodeRune x).length := by rw [← Lib.byteCells_encodeRune, Lib.byteCells_length]
  have hoth : Oth R (.slice ao o.length cap) w (w2.setCell ⟨R, 1, none⟩ (.slice ao' n' cap')) := fun k hk hkR hkb => by
    rw [Below.heap_setCell _ _ _ _ (by simpa using fun e => hkR e), hgrow.block k (by simp; omega) (fun e => hkb e.symm), Lib.alloc_old w1 _ k (by omega)]
    exact ho1 k hk hkR hkb
  have HO := Lib.hid hoth
  clear df cf hoth
  go_wp2
  go_ret2
  refine ⟨⟨_, rfl⟩, ⟨_, hBR, row_set 1 _ hb2, .inr rfl, ?_, hne'⟩, ?_, HO.out⟩
  · refine owns_set ?_ hne'
    rw [hlen, hln, ← List.length_append] at hown'
    exact hown'
  · exact (((hb1.alloc (by omega) ob).grown hgrow (by simp; omega) (fun k hk => (h1.own.lt k hk).1))).setCell (p := ⟨R, 1, none⟩) hBR _
end
end Go.Proofs.YtgdhepoffnpgiaaDoor
