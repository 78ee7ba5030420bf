/- The walks of utf.reader's builder, which lies in a field: copyCheck, WriteString, WriteRune, String; put. The walks of strings.Builder in a block of its own (R): copyCheck, WriteString, WriteRune, String; other blocks stand. The walk of (*strings.Builder).String on the builder in utf.reader's field. -/
import Derived.Test.YtccmhhmdenfecaaGreatDoorTv
import Derived.Test.YtccmhhmdenfecaaGreatDoorShelf
import Derived.WalkKit
import Derived.Lib.Hide
import Derived.Lib.Builder
import Derived.Laws.OwnMore
import Derived.TacticsInMore
import Derived.Deep.DeepFit
import Derived.Deep.DeepMust
import Derived.Deep.DeepCutAuto
import Derived.Deep.RegionHeld3
import Derived.BigQuiet
import Derived.Deep.QuietTactic
import Derived.Shelf.RegionOpen
namespace Go.Proofs.YtccmhhmdenfecaaGreatDoor
set_option linter.unusedVariables false
set_option linter.unusedSimpArgs false
set_option linter.unusedSectionVars false
section
open Go.RowKit Go.Shelf
/-- The cells of the reader. -/
def rdC (Q : UQ) (addr buf : Value) : Array Value := #[.int .i64 Q.st, addr, buf, strV Q.ru, .int .i64 Q.many, .int .i32 Q.n, .int .i32 Q.first]
/-- The reader Q lies in the block R; its text in a row of its own, at B or above. -/
structure UOk (B : Nat) (w : World) (R : Nat) (Q : UQ) (addr buf : Value) : Prop where
  hB : B ≤ R
  row : w.heap[R]? = some (.cells (rdC Q addr buf) 169 (0, 0))
  ad : addr = .pointer none ∨ addr = .pointer (some ⟨R, 1, none⟩)
  own : w.ownsRow B 5 1 buf Q.out.length (Lib.byteCells Q.out)
  ne : buf.ownBlock ≠ some R
theorem cellR {w : World} {Y : Nat} {v0 v1 v2 v3 v4 v5 v6 : Value} {ty : TypeId} (h : w.heap[Y]? = some (.cells #[v0, v1, v2, v3, v4, v5, v6] ty (0, 0))) :
    w.cell? ⟨Y, 0, none⟩ = some v0 ∧ w.cell? ⟨Y, 1, none⟩ = some v1 ∧ w.cell? ⟨Y, 2, none⟩ = some v2 ∧ w.cell? ⟨Y, 3, none⟩ = some v3 ∧ w.cell? ⟨Y, 4, none⟩ = some v4 ∧ w.cell? ⟨Y, 5, none⟩ = some v5 ∧ w.cell? ⟨Y, 6, none⟩ = some v6 ∧ (∀ i, w.frozen? ⟨Y, i, none⟩ = false) := by
  refine ⟨?_, ?_, ?_, ?_, ?_, ?_, ?_, fun i => ?_⟩
  all_goals first | (rw [Lib.cell_of_heap h]; rfl) | exact Lib.frozen_of_heap h i
theorem row_lt {w : World} {Y : Nat} {o : Obj} (h : w.heap[Y]? = some o) : Y < w.heap.size := (Array.getElem?_eq_some_iff.1 h).1
/-- Storing a cell of the reader keeps its text. -/
theorem owns_set {w : World} {B R i : Nat} {v x : Value} {n : Nat} {xs : List Value} (h : w.ownsRow B 5 1 v n xs) (hne : v.ownBlock ≠ some R) : (w.setCell ⟨R, i, none⟩ x).ownsRow B 5 1 v n xs :=
  h.kept (row := some R) ⟨rfl, rfl, rfl, by simp [World.setCell], fun k _ hk => Below.heap_setCell _ _ _ _ (fun e => hk (by simp [e]))⟩ (Or.inr hne)
theorem row_set {w : World} {Y : Nat} {cs : Array Value} {ty : TypeId} (i : Nat) (v : Value) (h : w.heap[Y]? = some (.cells cs ty (0, 0))) : (w.setCell ⟨Y, i, none⟩ v).heap[Y]? = some (.cells (cs.setIfInBounds i v) ty (0, 0)) := by
  simp [World.setCell, Array.getElem?_modify, h]
theorem sizeB : (Tryz.prog.info? 78).map (·.size) = some 2 := by kernel_rfl
theorem liesB : liesAt Tryz.prog Tryz.prog.depth 169 (7 / Tryz.prog.cellsOf 169) 1 78 1 = true := by kernel_rfl
theorem copy_fresh (R : Nat) (w : World) (h0 : w.cell? ⟨R, 1, none⟩ = some (.pointer none)) (hsh : w.shape? R = some (169, 7)) (hfz : w.frozen? ⟨R, 1, none⟩ = false) :
    Calls Tryz.prog 63 #[.pointer (some ⟨R, 1, none⟩)] w fun e w' => e = .returned (.tuple #[]) ∧ w' = w.setCell ⟨R, 1, none⟩ (.pointer (some ⟨R, 1, none⟩)) := by
  obtain ⟨j, hj, hjs⟩ := Option.map_eq_some_iff.1 sizeB
  have e1 := Lib.run_to_unsafe (P := Tryz.prog) w ⟨R, 1, none⟩ Tryz.underlying75 Tryz.underlying149 hj (by rw [hjs]; decide) hsh (show 1 < 7 by decide)
  have e2 := Lib.run_from_unsafe (P := Tryz.prog) w ⟨R, 1, none⟩ Tryz.underlying149 Tryz.underlying75 hj hsh liesB
  have e3 : (callFunc 101 #[.pointer (some ⟨R, 1, none⟩)]).run Tryz.prog w = .ok (.value (.pointer (some ⟨R, 1, none⟩))) w := by
    rw [run_callFunc_extern Tryz.func101 (by kernel_rfl) (by kernel_rfl) (by kernel_rfl) (e := Extern.AbiNoEscape.same) (by kernel_rfl), Lib.run_noEscape]
    rfl
  clear hj hjs
  go_enter Tryz.func63, Tryz.ntmps63
  go_wp2
  go_end0
  exact ⟨rfl, rfl⟩
theorem copy_used (R : Nat) (w : World) (h0 : w.cell? ⟨R, 1, none⟩ = some (.pointer (some ⟨R, 1, none⟩))) :
    Calls Tryz.prog 63 #[.pointer (some ⟨R, 1, none⟩)] w fun e w' => e = .returned (.tuple #[]) ∧ w' = w := by
  obtain ⟨j, hj, -⟩ := Option.map_eq_some_iff.1 sizeB
  have e1 := Lib.run_neq_ptr_same (P := Tryz.prog) w ⟨R, 1, none⟩ Tryz.underlying75 hj
  clear hj
  go_enter Tryz.func63, Tryz.ntmps63
  go_wp2
  go_end0
  exact ⟨rfl, rfl⟩
section
variable {B R : Nat} {w : World} {Q : UQ} {addr buf : Value}
theorem UOk.lt (h : UOk B w R Q addr buf) : R < w.heap.size := row_lt h.row
/-- Storing cells of the reader but its text's two. -/
theorem UOk.to {w' : World} {Q' : UQ} (h : UOk B w R Q addr buf) (hr : w'.heap[R]? = some (.cells (rdC Q' addr buf) 169 (0, 0))) (ho : Q'.out = Q.out) (hk : ∀ k, k < w.heap.size → k ≠ R → w'.heap[k]? = w.heap[k]?) (hs : w.heap.size ≤ w'.heap.size) : UOk B w' R Q' addr buf := by
  refine ⟨h.hB, hr, h.ad, ?_, h.ne⟩
  rw [ho]
  refine ⟨h.own.1, ?_⟩
  rcases h.own.2 with hn | ⟨g, c, cur, e, hb, hg, rest⟩
  · exact .inl hn
  · refine .inr ⟨g, c, cur, e, hb, ?_, rest⟩
    rw [hk g (row_lt hg) (fun e2 => h.ne (by rw [e, e2]; rfl))]
    exact hg
theorem UOk.alloc (h : UOk B w R Q addr buf) (o : Obj) : UOk B (w.alloc o) R Q addr buf :=
  h.to ((Lib.alloc_old w o R h.lt).trans h.row) rfl (fun k hk _ => Lib.alloc_old w o k hk) (by simp)
theorem UOk.drew (h : UOk B w R Q addr buf) : UOk B w.drew R Q addr buf := ⟨h.hB, h.row, h.ad, h.own, h.ne⟩
theorem UOk.below {w' : World} {B' : Nat} (h : UOk B w R Q addr buf) (hb : Below B' w w') (hB : w.heap.size ≤ B') : UOk B w' R Q addr buf :=
  h.to ((hb.block R (by have := h.lt; omega)).trans h.row) rfl (fun k hk _ => hb.block k (by omega)) hb.size
theorem check_any (h : UOk B w R Q addr buf) :
    Calls Tryz.prog 63 #[.pointer (some ⟨R, 1, none⟩)] w fun e w' => e = .returned (.tuple #[]) ∧ UOk B w' R Q (.pointer (some ⟨R, 1, none⟩)) buf ∧ Below B w w' := by
  obtain ⟨c0, c1, c2, c3, c4, c5, c6, cf⟩ := cellR h.row
  rcases h.ad with rfl | rfl
  · refine (copy_fresh R w c1 (by simp [World.shape?, h.row, rdC]) (cf 1)).mono ?_
    rintro e w' ⟨rfl, rfl⟩
    exact ⟨rfl, ⟨h.hB, row_set 1 _ h.row, .inr rfl, owns_set h.own h.ne, h.ne⟩, (Below.refl B w).setCell (p := ⟨R, 1, none⟩) h.hB _⟩
  · refine (copy_used R w c1).mono ?_
    rintro e w' ⟨rfl, rfl⟩
    exact ⟨rfl, h, Below.refl _ _⟩
set_option maxHeartbeats 1000000 in
set_option maxRecDepth 100000 in
theorem writeS_any (s : List UInt8) (hs : s.length ≤ 1048576) (hl : Q.out.length ≤ 1099511627776) (h : UOk B w R Q addr buf) :
    Calls Tryz.prog 39 #[.pointer (some ⟨R, 1, none⟩), strV s] w fun e w' => e = .returned (.tuple #[.int .i64 s.length, .nilIface]) ∧ (∃ buf', UOk B w' R { Q with out := Q.out ++ s } (.pointer (some ⟨R, 1, none⟩)) buf') ∧ Below B w w' := by
  obtain ⟨i0, hi, hz0, hz1, hz2⟩ := info_parts (Builder.Extra.infoByte Tryz.Builder_Extra_169)
  have HC := check_any h
  have hBR := h.hB
  have hRw := h.lt
  have hsz : (⟨s.toArray⟩ : ByteArray).size = s.length := by simp [ByteArray.size]
  clear h
  unfold strV
  go_enter Tryz.func39, Tryz.ntmps39
  go_wp2_with (go_at_call 63; refine HC.mono ?_)
  rintro e w1 ⟨rfl, h1, hb1⟩
  obtain ⟨c0, c1, c2, c3, c4, c5, c6, cf⟩ := cellR h1.row
  have hsz1 := hb1.size
  have hlt1 := h1.lt
  go_wp2_with (at_builtin; refine Lib.wpList_append_own_string _ rfl _ _ 76 9 rfl B 5 i0 Tryz.underlying76 Tryz.underlying9 hi hz0 hz1 hz2 _ _ _ rfl h1.own _ rfl ?c3 ?c4 ?c5 ?_)
  case c3 => unfold maxLen; omega
  case c4 => omega
  case c5 => omega
  intro v' w2 hown' hgrow _
  have hb2 : w2.heap[R]? = some (.cells (rdC Q (.pointer (some ⟨R, 1, none⟩)) buf) 169 (0, 0)) := by
    rw [hgrow.block R hlt1 (fun e => h1.ne e.symm)]
    exact h1.row
  obtain ⟨d0, d1, d2, d3, d4, d5, d6, df⟩ := cellR hb2
  have f2 := df 2
  have hne' : v'.ownBlock ≠ some R := Lib.ownBlock_ne hown' hb2 (by decide)
  obtain ⟨ao, n', cap, rfl⟩ : ∃ ao n' cap, v' = .slice ao n' cap := by
    rcases hown'.2 with ⟨hv, _⟩ | ⟨g, cap, cur, hv, _⟩
    · exact ⟨_, _, _, hv⟩
    · exact ⟨_, _, _, hv⟩
  clear df cf
  go_wp2
  go_ret2
  refine ⟨by rw [← hsz]; rfl, ⟨_, hBR, row_set 2 _ hb2, .inr rfl, ?_, hne'⟩, ?_⟩
  · refine owns_set ?_ hne'
    rw [Lib.strCells_eq, ← Lib.byteCells_append, ← List.length_append] at hown'
    exact hown'
  · exact (hb1.grown hgrow (by omega) (fun k hk => (h1.own.lt k hk).1)).setCell (p := ⟨R, 2, none⟩) hBR _
theorem UOk.slice (h : UOk B w R Q addr buf) : ∃ ao cap, buf = .slice ao Q.out.length cap := by
  rcases h.own.2 with ⟨hv, h0⟩ | ⟨g, cap, cur, hv, _⟩
  · exact ⟨none, 0, by rw [hv, h0]⟩
  · exact ⟨_, _, hv⟩
set_option maxHeartbeats 1000000 in
set_option maxRecDepth 100000 in
theorem writeR_any (x : Int) (hx0 : 0 ≤ x) (hx1 : x ≤ 2147483647) (hl : Q.out.length ≤ 1099511627776) (h : UOk B w R Q addr buf) :
    Calls Tryz.prog 113 #[.pointer (some ⟨R, 1, none⟩), .int .i32 x] w fun e w' => (∃ v, e = .returned v) ∧ (∃ buf', UOk B w' R { Q with out := Q.out ++ Lib.encodeRune x } (.pointer (some ⟨R, 1, none⟩)) buf') ∧ Below B w w' := by
  have HC := check_any h
  have hBR := h.hB
  have hRw := h.lt
  clear h
  go_enter Tryz.func113, Tryz.ntmps113
  go_wp2_with (go_at_call 63; refine HC.mono ?_)
  rintro e w1 ⟨rfl, h1, hb1⟩
  obtain ⟨ao, cap, rfl⟩ := h1.slice
  obtain ⟨c0, c1, c2, c3, c4, c5, c6, cf⟩ := cellR h1.row
  have hsz1 := hb1.size
  have hlt1 := h1.lt
  go_wp2_with fail
  refine (Tryz.utf8_AppendRune_plain B _ Q.out.length _ x (by omega) hx1 _ h1.own (by omega) (by omega)).mono ?_
  rintro e w2 ⟨v', rfl, hown', o, hgrow⟩
  have hb2 : w2.heap[R]? = some (.cells (rdC Q (.pointer (some ⟨R, 1, none⟩)) (.slice ao Q.out.length cap)) 169 (0, 0)) := by
    rw [hgrow.block R (by simp; omega) (fun e => h1.ne e.symm), Lib.alloc_old w1 _ R hlt1]
    exact h1.row
  have hne' : v'.ownBlock ≠ some R := Lib.ownBlock_ne hown' hb2 (by decide)
  obtain ⟨ao', n', cap', rfl⟩ : ∃ ao n' cap, v' = .slice ao n' cap := by
    rcases hown'.2 with ⟨hv, _⟩ | ⟨g, cap, cur, hv, _⟩
    · exact ⟨_, _, _, hv⟩
    · exact ⟨_, _, _, hv⟩
  obtain ⟨d0, d1, d2, d3, d4, d5, d6, df⟩ := cellR hb2
  have f2 := df 2
  have hlen : Lib.byteCells Q.out ++ Lib.runeCells x = Lib.byteCells (Q.out ++ Lib.encodeRune x) := by
    rw [Lib.byteCells_append, Lib.byteCells_encodeRune]
  have hln : (Lib.runeCells x).length = (Lib.encodeRune x).length := by rw [← Lib.byteCells_encodeRune, Lib.byteCells_length]
  clear df cf
  go_wp2
  go_ret2
  refine ⟨⟨_, rfl⟩, ⟨_, hBR, row_set 2 _ hb2, .inr rfl, ?_, hne'⟩, ?_⟩
  · refine owns_set ?_ hne'
    rw [hlen, hln, ← List.length_append] at hown'
    exact hown'
  · exact (((hb1.alloc (by omega) o).grown hgrow (by simp; omega) (fun k hk => (h1.own.lt k hk).1))).setCell (p := ⟨R, 2, none⟩) hBR _
set_option maxHeartbeats 1000000 in
set_option maxRecDepth 100000 in
theorem put_any (x : Int) (hx0 : 0 ≤ x) (hx1 : x ≤ 2147483647) (hl : Q.out.length ≤ 1099511627776) (h : UOk B w R Q addr buf) :
    Calls Tryz.prog 163 #[.pointer (some ⟨R, 0, none⟩), .int .i32 x] w fun e w' => e = .returned (.tuple #[]) ∧ (∃ addr' buf', UOk B w' R (putQ Q x) addr' buf') ∧ Below B w w' := by
  have HW := writeR_any x hx0 hx1 hl h
  have hBR := h.hB
  have hRw := h.lt
  clear h
  go_enter Tryz.func163, Tryz.ntmps163
  go_wp2_with (go_at_call 113; refine HW.mono ?_)
  rintro e w1 ⟨⟨v, rfl⟩, ⟨buf', h1⟩, hb1⟩
  obtain ⟨c0, c1, c2, c3, c4, c5, c6, cf⟩ := cellR h1.row
  have f0 := cf 0
  clear cf
  go_wp2
  go_end0
  refine ⟨rfl, ⟨_, _, h1.hB, row_set 0 _ h1.row, h1.ad, owns_set h1.own h1.ne, h1.ne⟩, hb1.setCell (p := ⟨R, 0, none⟩) hBR _⟩
end
end
section
open Go.RowKit Go.Shelf
/-- The builder lies in the block R; its text o in a row of its own, at B or above. -/
structure BOk (B : Nat) (w : World) (R : Nat) (o : List UInt8) (addr buf : Value) : Prop where
  hB : B ≤ R
  row : w.heap[R]? = some (.cells #[addr, buf] 78 (0, 0))
  ad : addr = .pointer none ∨ addr = .pointer (some ⟨R, 0, none⟩)
  own : w.ownsRow B 5 1 buf o.length (Lib.byteCells o)
  ne : buf.ownBlock ≠ some R
/-- Every block but the builder's and its text's stands. -/
def Oth (R : Nat) (buf : Value) (w w' : World) : Prop := ∀ k, k < w.heap.size → k ≠ R → buf.ownBlock ≠ some k → w'.heap[k]? = w.heap[k]?
section
variable {B R : Nat} {w : World} {o : List UInt8} {addr buf : Value}
theorem BOk.lt (h : BOk B w R o addr buf) : R < w.heap.size := row_lt h.row
/-- Where all blocks but others' stand, the builder stands. -/
theorem BOk.to {w' : World} (h : BOk B w R o addr buf) (hk : ∀ k, k = R ∨ buf.ownBlock = some k → k < w.heap.size → w'.heap[k]? = w.heap[k]?) : BOk B w' R o addr buf := by
  refine ⟨h.hB, (hk R (.inl rfl) h.lt).trans h.row, h.ad, ?_, h.ne⟩
  refine ⟨h.own.1, ?_⟩
  rcases h.own.2 with hn | ⟨g, c, cur, e, hb, hg, rest⟩
  · exact .inl hn
  · exact .inr ⟨g, c, cur, e, hb, (hk g (.inr (by rw [e]; rfl)) (row_lt hg)).trans hg, rest⟩
theorem BOk.alloc (h : BOk B w R o addr buf) (x : Obj) : BOk B (w.alloc x) R o addr buf := h.to (fun k _ hk => Lib.alloc_old w x k hk)
theorem BOk.drew (h : BOk B w R o addr buf) : BOk B w.drew R o addr buf := ⟨h.hB, h.row, h.ad, h.own, h.ne⟩
theorem BOk.below {w' : World} (h : BOk B w R o addr buf) (hb : Below w.heap.size w w') : BOk B w' R o addr buf := h.to (fun k _ hk => hb.block k hk)
theorem Oth.refl (R : Nat) (buf : Value) (w : World) : Oth R buf w w := fun _ _ _ _ => rfl
theorem BOk.slice (h : BOk B w R o addr buf) : ∃ ao cap, buf = .slice ao o.length cap := by
  rcases h.own.2 with ⟨hv, h0⟩ | ⟨g, cap, cur, hv, _⟩
  · exact ⟨none, 0, by rw [hv, h0]⟩
  · exact ⟨_, _, hv⟩
end
end
section
open Go.RowKit Go.Shelf
section
variable {B R : Nat} {w : World} {Q : UQ} {addr buf : Value}
theorem cellsB : Tryz.prog.cellsOf 5 = 1 := by kernel_rfl
theorem unsafe_none (W : World) (q : Option Addr) : (Builtin.unsafeString_ #[112, 3] 9 #[.pointer q, .int .i64 0]).run Tryz.prog W = .ok (.string .empty) W :=
  Lib.run_unsafeString_none W _ _ _ q
set_option maxHeartbeats 4000000 in
set_option maxRecDepth 100000 in
theorem string_some (h0 : Q.out ≠ []) (h : UOk B w R Q addr buf) :
    Calls Tryz.prog 41 #[.pointer (some ⟨R, 1, none⟩)] w fun e w' => e = .returned (strV Q.out) ∧ Below B w w' := by
  have hl0 : Q.out.length ≠ 0 := by simpa using h0
  obtain ⟨g, cap, cur, rfl, hbg, hg, hnc, hcm, hcs, htake⟩ : ∃ g cap cur, buf = .slice (some ⟨g, 0, none⟩) Q.out.length cap ∧ B ≤ g ∧ w.heap[g]? = some (.cells cur 5 (0, 0)) ∧ Q.out.length ≤ cap ∧ cap ≤ maxLen ∧ cur.size = cap * 1 ∧ cur.toList.take (Q.out.length * 1) = Lib.byteCells Q.out := by
    rcases h.own.2 with ⟨_, hz⟩ | ⟨g, cap, cur, hv, r⟩
    · exact absurd hz hl0
    · exact ⟨g, cap, cur, hv, r⟩
  have c2 : w.drew.cell? ⟨R, 2, none⟩ = some (.slice (some ⟨g, 0, none⟩) Q.out.length cap) := (cellR h.row).2.2.1
  have hSD : (Builtin.unsafeSliceData_ #[76] 112 #[.slice (some ⟨g, 0, none⟩) Q.out.length cap]).run Tryz.prog w.drew = .ok (.pointer (some ⟨g, 0, none⟩)) w.drew :=
    Lib.run_unsafeSliceData_row _ _ _ _ _ _ (by omega)
  have hUS : (Builtin.unsafeString_ #[112, 3] 9 #[.pointer (some ⟨g, 0, none⟩), .int .i64 Q.out.length]).run Tryz.prog w.drew = .ok (.string ⟨Q.out.toArray⟩) (w.drew.freeze ⟨g, 0, none⟩ Q.out.length) := by
    refine Lib.run_unsafeString_row w.drew 112 3 9 5 Tryz.underlying112 cellsB g cur.size (by have hg' : w.drew.heap[g]? = some (.cells cur 5 (0, 0)) := hg; simp [World.shape?, hg']) Q.out h0 (by omega) (by unfold maxLen at hcm; omega) ?_
    intro j x hx
    have := h.own.cells (g := g) rfl j (.int .u8 x.toNat) (by simp [Lib.byteCells, hx])
    exact this
  clear h hcs htake hg
  unfold strV
  go_enter Tryz.func41, Tryz.ntmps41
  go_wp2
  go_region
  all_goals (go_wp2; go_ret; exact ⟨rfl, Lib.below_freeze (Below.drew (Below.refl B w)) (p := ⟨g, 0, none⟩) hbg _⟩)
set_option maxHeartbeats 4000000 in
set_option maxRecDepth 100000 in
theorem string_none (h0 : Q.out = []) (h : UOk B w R Q addr buf) :
    Calls Tryz.prog 41 #[.pointer (some ⟨R, 1, none⟩)] w fun e w' => e = .returned (strV Q.out) ∧ Below B w w' := by
  have hUS := unsafe_none
  have hRw := h.lt
  have hBR := h.hB
  have hBw : B ≤ w.heap.size := by omega
  have c2 := (cellR h.row).2.2.1
  rw [h0]
  unfold strV
  rcases h.own.2 with ⟨rfl, -⟩ | ⟨g, cap, cur, rfl, hbg, hg, -, -, -, -⟩
  · have c1 : w.drew.cell? ⟨R, 2, none⟩ = some (.slice none 0 0) := c2
    have hSD : (Builtin.unsafeSliceData_ #[76] 112 #[.slice none 0 0]).run Tryz.prog w.drew = .ok (.pointer none) w.drew := rfl
    clear c2 h h0
    go_enter Tryz.func41, Tryz.ntmps41
    go_wp2
    go_region
    all_goals (go_wp2; go_ret; exact ⟨rfl, Below.drew (Below.refl B w)⟩)
  · rw [h0, List.length_nil] at c2
    by_cases hc0 : cap = 0
    · subst hc0
      have c1 : w.drew.cell? ⟨R, 2, none⟩ = some (.slice (some ⟨g, 0, none⟩) 0 0) := c2
      have hSD : (Builtin.unsafeSliceData_ #[76] 112 #[.slice (some ⟨g, 0, none⟩) 0 0]).run Tryz.prog w.drew = .ok (.pointer (some ⟨w.drew.heap.size, 0, none⟩)) (w.drew.alloc (.view ⟨g, 0, none⟩ 5)) :=
        Lib.run_unsafeSliceData_zero w.drew _ _ 5 Tryz.underlying112 ⟨g, 0, none⟩ 0 (5, cur.size) (by have hg' : w.drew.heap[g]? = some (.cells cur 5 (0, 0)) := hg; simp [World.shape?, hg'])
      have hrow := (cellR ((Lib.alloc_old w.drew (.view ⟨g, 0, none⟩ 5) R hRw).trans h.row)).2.2.1
      rw [h0, List.length_nil] at hrow
      have c3 : (w.alloc (.view ⟨g, 0, none⟩ 5)).drew.cell? ⟨R, 2, none⟩ = some (.slice (some ⟨g, 0, none⟩) 0 0) := hrow
      clear h hg h0
      go_enter Tryz.func41, Tryz.ntmps41
      go_wp2
      go_region
      all_goals (go_wp2; go_ret; exact ⟨rfl, (Below.drew (Below.refl B w)).alloc hBw _⟩)
    · have c1 : w.drew.cell? ⟨R, 2, none⟩ = some (.slice (some ⟨g, 0, none⟩) 0 cap) := c2
      have hSD : (Builtin.unsafeSliceData_ #[76] 112 #[.slice (some ⟨g, 0, none⟩) 0 cap]).run Tryz.prog w.drew = .ok (.pointer (some ⟨g, 0, none⟩)) w.drew :=
        Lib.run_unsafeSliceData_row _ _ _ _ _ _ hc0
      clear hc0 h hg h0
      go_enter Tryz.func41, Tryz.ntmps41
      go_wp2
      go_region
      all_goals (go_wp2; go_ret; exact ⟨rfl, Below.drew (Below.refl B w)⟩)
theorem string_any (h : UOk B w R Q addr buf) : Calls Tryz.prog 41 #[.pointer (some ⟨R, 1, none⟩)] w fun e w' => e = .returned (strV Q.out) ∧ Below B w w' := by
  by_cases h0 : Q.out = []
  · exact string_none h0 h
  · exact string_some h0 h
end
end
end Go.Proofs.YtccmhhmdenfecaaGreatDoor
