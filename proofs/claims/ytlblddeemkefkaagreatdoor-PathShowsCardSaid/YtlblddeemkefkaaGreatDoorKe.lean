/- The walk of strings.Builder.WriteByte, the builder in a block of its own. utf.Quote at any text; key.Check; the string of an empty Builder. -/
import Derived.Test.YtlblddeemkefkaaGreatDoorLb
import Derived.Test.YtlblddeemkefkaaGreatDoorKd
import Derived.Lib.ItoaLen
namespace Go.Proofs.YtlblddeemkefkaaGreatDoor
set_option linter.unusedVariables false
set_option linter.unusedSimpArgs false
set_option linter.unusedSectionVars false
section
open Go.RowKit Go.Shelf
section
variable {B R : Nat} {w : World} {o : List UInt8} {addr buf : Value}
theorem u8one (c : UInt8) : ∀ u ∈ [Value.int .u8 (c.toNat : Int)], u.oneCell' = true := by
  intro u hu
  rw [List.mem_singleton.1 hu]
  rfl
theorem one_cell_at {w : World} {v : Value} {ty : TypeId} : ∀ (j : Nat) (x : Value), [v][j]? = some x → (w.alloc (.cells #[v] ty)).cell? ((⟨w.heap.size, 0, none⟩ : Addr).add j) = some x := by
  intro j x hj
  cases j with
  | zero =>
    injection hj with hj
    subst hj
    exact Lib.cell_of_heap (heap_alloc_new w (.cells #[v] ty)) 0
  | succ j => cases hj
set_option maxHeartbeats 1000000 in
set_option maxRecDepth 100000 in
theorem bwriteB_any (c : UInt8) (hl : o.length ≤ 1099511627776) (h : BOk B w R o addr buf) :
    Calls Tryz.prog 41 #[.pointer (some ⟨R, 0, none⟩), .int .u8 (c.toNat : Int)] w fun e w' => e = .returned .nilIface ∧ (∃ buf', BOk B w' R (o ++ [c]) (.pointer (some ⟨R, 0, none⟩)) buf') ∧ Below B w w' ∧ Oth R buf w w' := by
  obtain ⟨i0, hi, hz0, hz1, hz2⟩ := info_parts (Builder.Extra.infoByte Tryz.Builder_Extra_169)
  have HC := bcheck_any h
  have hBR := h.hB
  have hRw := h.lt
  clear h
  obtain ⟨x, hx⟩ : ∃ x, x = (c.toNat : Int) := ⟨_, rfl⟩
  have hone := u8one c
  rw [← hx] at hone ⊢
  have HX := Lib.hid hx
  clear hx
  go_enter Tryz.func41, Tryz.ntmps41
  go_wp2_with (go_at_call 78; refine HC.mono ?_)
  rintro e w1 ⟨rfl, h1, hb1, ho1⟩
  obtain ⟨c0, c1, cf⟩ := cellB h1.row
  have hsz1 := hb1.size
  have hlt1 := h1.lt
  have hown := (h1.alloc (.cells #[.int .u8 x] 5)).own
  go_wp2_with (at_builtin; refine wpList_append_own _ rfl _ _ 61 rfl B 5 i0 (.int .u8 0) 1 1 Tryz.underlying61 hi hz0 hz1 hz2 rfl (by decide) _ _ _ rfl hown ⟨w1.heap.size, 0, none⟩ 1 1 [.int .u8 x] rfl rfl one_cell_at hone ?c3 ?c4 ?c5 ?_)
  case c3 => unfold maxLen; omega
  case c4 => omega
  case c5 => simp; omega
  intro v' w2 hown' hgrow _
  have hb2 : w2.heap[R]? = some (.cells #[.pointer (some ⟨R, 0, none⟩), buf] 64 (0, 0)) := by
    rw [hgrow.block R (by simp; omega) (fun e => h1.ne e.symm), Lib.alloc_old w1 _ R hlt1]
    exact h1.row
  obtain ⟨d0, d1, df⟩ := cellB hb2
  have f1 := df 1
  have hne' : v'.ownBlock ≠ some R := Lib.ownBlock_ne hown' hb2 (by decide)
  obtain ⟨ao, n', cap, rfl⟩ : ∃ ao n' cap, v' = .slice ao n' cap := by
    rcases hown'.2 with ⟨hv, _⟩ | ⟨g, cap, cur, hv, _⟩
    · exact ⟨_, _, _, hv⟩
    · exact ⟨_, _, _, hv⟩
  have hoth : Oth R buf w (w2.setCell ⟨R, 1, none⟩ (.slice ao n' cap)) := fun k hk hkR hkb => by
    rw [Below.heap_setCell _ _ _ _ (by simpa using fun e => hkR e), hgrow.block k (by simp; omega) (fun e => hkb e.symm), Lib.alloc_old w1 _ k (by omega)]
    exact ho1 k hk hkR hkb
  have HO := Lib.hid hoth
  clear df cf hoth
  go_wp2
  go_ret
  refine ⟨rfl, ⟨_, hBR, row_set 1 _ hb2, .inr rfl, ?_, hne'⟩, ?_, HO.out⟩
  · refine owns_set ?_ hne'
    have e : Lib.byteCells (o ++ [c]) = Lib.byteCells o ++ [.int .u8 x] := by
      rw [Lib.byteCells_append, HX.out]
      rfl
    rw [e, List.length_append]
    exact hown'
  · exact ((hb1.alloc (by omega) _).grown hgrow (by simp; omega) (fun k hk => (h1.own.lt k hk).1)).setCell (p := ⟨R, 1, none⟩) hBR _
end
end
section
open Go.RowKit Go.Shelf
/-- What utf.Quote gives. -/
def quoE (l : List UInt8) : List UInt8 × Int := if Lib.validD l = true then (quoL' l, 0) else ([], 40)
set_option maxHeartbeats 4000000 in
set_option maxRecDepth 100000 in
theorem quotE_any (l : List UInt8) (hl : l.length ≤ 1073741824) (w : World) (hT : Tabs w) : Calls Tryz.prog 39 #[strV l] w fun e w' => e = .returned (.tuple #[strV (quoE l).1, .int .i64 (quoE l).2]) ∧ Below w.heap.size w w' := by
  by_cases hv : Lib.validD l = true
  · unfold quoE
    rw [if_pos hv]
    exact quote_any l hv hl w hT
  · unfold quoE
    rw [if_neg hv]
    have hva := valid_any l hl w hT
    rw [Bool.not_eq_true] at hv
    rw [hv] at hva
    unfold strV at hva ⊢
    have HV := Lib.hid hva
    clear hva hv hT
    go_enter Tryz.func39, Tryz.ntmps39
    go_wp2_with fail
    refine HV.out.mono ?_
    rintro e w1 ⟨rfl, hb1⟩
    go_wp2
    go_ret2
    exact ⟨rfl, hb1⟩
/-- What key.Check gives. -/
def keyE (l : List UInt8) : Int := if 0 ≤ Lib.indexByte l 0 then 70 else 0
set_option maxHeartbeats 4000000 in
set_option maxRecDepth 100000 in
theorem keyck_any (l : List UInt8) (w : World) : Calls Tryz.prog 40 #[strV l] w fun e w' => e = .returned (.int .i64 (keyE l)) ∧ w' = w := by
  have HI := Lib.hid (Tryz.strings_IndexByte ⟨l.toArray⟩ 0 w)
  unfold strV
  go_enter Tryz.func40, Tryz.ntmps40
  by_cases h : 0 ≤ Lib.indexByte l 0
  · go_wp2_with (go_at_call 77; refine HI.out.mono ?_; rintro e w1 ⟨rfl, rfl⟩)
    go_ret
    unfold keyE
    rw [if_pos h]
    exact ⟨rfl, rfl⟩
  · go_wp2_with (go_at_call 77; refine HI.out.mono ?_; rintro e w1 ⟨rfl, rfl⟩)
    go_ret
    unfold keyE
    rw [if_neg (by omega)]
    exact ⟨rfl, rfl⟩
set_option maxHeartbeats 4000000 in
set_option maxRecDepth 100000 in
theorem bstring_nil {R : Nat} {w : World} {a : Value} (h : w.heap[R]? = some (.cells #[a, .slice none 0 0] 64 (0, 0))) :
    Calls Tryz.prog 43 #[.pointer (some ⟨R, 0, none⟩)] w fun e w' => e = .returned (strV []) ∧ Below w.heap.size w w' := by
  have c2 : w.drew.cell? ⟨R, 1, none⟩ = some (.slice none 0 0) := (cellB h).2.1
  have hSD : (Builtin.unsafeSliceData_ #[61] 101 #[.slice none 0 0]).run Tryz.prog w.drew = .ok (.pointer none) w.drew := Lib.run_unsafeSliceData_nil _ _ _ _ _
  have hUS : (Builtin.unsafeString_ #[101, 3] 9 #[.pointer none, .int .i64 0]).run Tryz.prog w.drew = .ok (.string .empty) w.drew := Lib.run_unsafeString_none _ _ _ _ _
  clear h
  go_enter Tryz.func43, Tryz.ntmps43
  go_wp2
  go_region
  all_goals (go_wp2; go_ret; exact ⟨rfl, Below.drew (Below.refl _ w)⟩)
end
end Go.Proofs.YtlblddeemkefkaaGreatDoor
