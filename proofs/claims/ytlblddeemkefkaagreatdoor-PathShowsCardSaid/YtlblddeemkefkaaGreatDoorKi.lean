/- The closures of path.Parse: a name. path.Parse in plain Lean: what it computes, and the bounds of what utf.Unquote gives. -/
import Derived.Test.YtlblddeemkefkaaGreatDoorKh
namespace Go.Proofs.YtlblddeemkefkaaGreatDoor
set_option linter.unusedVariables false
set_option linter.unusedSimpArgs false
section
open Go.RowKit Go.Shelf
/-- The tables that path.Parse leans on. -/
def NamTabs (w : World) : Prop := Tabs w ∧ 1 < w.heap.size ∧ 2 < w.heap.size
theorem NamTabs.below {w w' : World} (h : NamTabs w) (hb : Below w.heap.size w w') : NamTabs w' :=
  ⟨h.1.below hb h.2.1 h.2.2, Nat.lt_of_lt_of_le h.2.1 hb.size, Nat.lt_of_lt_of_le h.2.2 hb.size⟩
set_option maxHeartbeats 16000000 in
set_option maxRecDepth 100000 in
theorem name_any (l : List UInt8) (i : Nat) (P : Nat) (w : World) (hP : P < w.heap.size) (h0 : w.cell? ⟨P, 0, none⟩ = some (strV l)) (hl : l.length ≤ 1073741824) (hi : i ≤ l.length) (hT : NamTabs w) (hb1 : -1073741824 ≤ (unqM (l.drop i)).2.1 ∧ (unqM (l.drop i)).2.1 ≤ 1073741824) (hb2 : -1073741824 ≤ (unqM (l.drop i)).2.2.1 ∧ (unqM (l.drop i)).2.2.1 ≤ 1073741824) :
    Calls Tryz.prog 51 #[.int .i64 i, .pointer (some ⟨P, 0, none⟩)] w fun e w' => e = .returned (saidV (nameM l i)) ∧ Below w.heap.size w w' := by
  have hsl := sub_from l i hi
  have HU := Lib.hid (fun (V : World) (hV : Below w.heap.size w V) => unq_any (l.drop i) (by rw [List.length_drop]; omega) V (hT.below hV).1 (hT.below hV).2.1 (hT.below hV).2.2)
  have HM : Hid (nameM l i = if (unqM (l.drop i)).2.2.2 ≠ 0 then (([], 0, false), 0, (i : Int) + (unqM (l.drop i)).2.2.1, (unqM (l.drop i)).2.2.2)
    else if keyE (unqM (l.drop i)).1 ≠ 0 then (([], 0, false), 0, i, 70)
    else (((unqM (l.drop i)).1, 0, true), (i : Int) + (unqM (l.drop i)).2.1, 0, 0)) := Lib.hid rfl
  generalize hun : unqM (l.drop i) = un at *
  obtain ⟨tx, en, pl, er⟩ := un
  dsimp only at HU HM hb1 hb2
  unfold strV at h0 HU
  have HK := Lib.hid (fun (V : World) => keyck_any tx V)
  unfold strV at HK
  generalize l.drop i = x at *
  have q1 : IntKind.i64.wrap ((i : Int) + en) = (i : Int) + en := IntWalk.i64_in _ (by omega)
  have q2 : IntKind.i64.wrap ((i : Int) + pl) = (i : Int) + pl := IntWalk.i64_in _ (by omega)
  clear hb1 hb2 hT hun
  go_enter Tryz.func51, Tryz.ntmps51
  go_upto_region 1 with fail
  refine wp_named (fun wn => Below w.heap.size w wn ∧ wn.heap[w.heap.size]? = some (.cells #[.string ⟨#[]⟩, .int .i64 0, .bool false, .int .i64 0, .int .i64 0, .int .i64 0] 76 (0, 0)) ∧ wn.cell? ⟨P, 0, none⟩ = some (.string ⟨l.toArray⟩)) ⟨(Below.refl _ w).alloc (Nat.le_refl _) _, heap_alloc_new _ _, ((Below.refl w.heap.size w).alloc (Nat.le_refl _) _).cell hP |>.trans h0⟩ ?_
  rintro wn ⟨hbn, hrn, h0n⟩
  have HB := Lib.hid hbn
  have HRN := Lib.hid hrn
  have HZ := Lib.hid (row_lt hrn)
  clear hbn hrn h0
  go_wp2_with fail
  refine (HU.out _ HB.out).mono ?_
  rintro e wa ⟨rfl, hba⟩
  have hra := (hba.block _ HZ.out).trans HRN.out
  have HBA := Lib.hid (HB.out.trans (hba.mono HB.out.size))
  obtain ⟨z0, z1, z2, z3, z4, z5⟩ := at6 hra
  have g0 := frozen_of_row _ _ 0 _ _ hra
  have g1 := frozen_of_row _ _ 1 _ _ hra
  have g2 := frozen_of_row _ _ 2 _ _ hra
  have g3 := frozen_of_row _ _ 3 _ _ hra
  have g4 := frozen_of_row _ _ 4 _ _ hra
  have g5 := frozen_of_row _ _ 5 _ _ hra
  have gz : w.heap.size < wa.heap.size := row_lt hra
  have h0a : wa.cell? ⟨P, 0, none⟩ = some (.string ⟨l.toArray⟩) := (hba.cell (p := ⟨P, 0, none⟩) (Nat.lt_of_lt_of_le hP HB.out.size)).trans h0n
  clear hra hba h0n hsl HU
  by_cases he : er = 0
  · subst he
    by_cases hk : 0 ≤ Lib.indexByte tx 0
    · have hke : keyE tx = 70 := if_pos hk
      simp only [hke] at HK HM
      go_wp2_with (go_at_call 40; refine (HK.out _).mono ?_; rintro e w2 ⟨rfl, rfl⟩)
      (refine bodyPost_ret (v := .agg #[.string ⟨#[]⟩, .int .i64 0, .bool false, .int .i64 0, .int .i64 i, .int .i64 70]) (by simp [results, Tryz.results51, go_sem, *]) rfl ?_)
      exact ⟨by rw [HM.out]; rfl, below_six HBA.out (by omega) _ _ _ _ _ _⟩
    · have hke : keyE tx = 0 := if_neg hk
      simp only [hke] at HK HM
      go_wp2_with (go_at_call 40; refine (HK.out _).mono ?_; rintro e w2 ⟨rfl, rfl⟩)
      (refine bodyPost_ret (v := .agg #[.string ⟨tx.toArray⟩, .int .i64 0, .bool true, .int .i64 ((i : Int) + en), .int .i64 0, .int .i64 0]) (by simp [results, Tryz.results51, go_sem, *]) rfl ?_)
      exact ⟨by rw [HM.out]; rfl, below_six HBA.out (by omega) _ _ _ _ _ _⟩
  · go_wp2_with fail
    (refine bodyPost_ret (v := .agg #[.string ⟨#[]⟩, .int .i64 0, .bool false, .int .i64 0, .int .i64 ((i : Int) + pl), .int .i64 er]) (by simp [results, Tryz.results51, go_sem, *]) rfl ?_)
    exact ⟨by rw [HM.out, if_pos he]; rfl, below_six HBA.out (by omega) _ _ _ _ _ _⟩
end
section
open Go.RowKit Go.Shelf
theorem takeQ_err {Q : UQ} {c : UInt8} {e : Int} (h : takeQ Q c = .error e) : e = 40 ∨ e = 41 := by
  unfold takeQ at h
  repeat' split at h
  · unfold wantQ at h; split at h <;> cases h; exact .inr rfl
  · unfold beginQ plainQ at h
    repeat' split at h
    all_goals first | (cases h; done) | (cases h; exact .inl rfl) | (cases h; exact .inr rfl)
  · unfold escapeQ at h
    repeat' split at h
    all_goals first | (cases h; done) | (cases h; exact .inl rfl) | (cases h; exact .inr rfl)
  · unfold wantQ at h; split at h <;> cases h; exact .inr rfl
  · unfold wantQ at h; split at h <;> cases h; exact .inr rfl
  · unfold digitQ at h
    repeat' split at h
    all_goals first | (cases h; done) | (cases h; exact .inl rfl) | (cases h; exact .inr rfl)
theorem uq_bd : ∀ (l : List UInt8) (Q : UQ) (i : Int), 0 ≤ i →
    ((uqRun Q i l).2.2.2 = 0 ∧ i + 1 ≤ (uqRun Q i l).2.1 ∧ (uqRun Q i l).2.1 ≤ i + l.length ∧ (uqRun Q i l).2.2.1 = 0) ∨
    ((uqRun Q i l).2.2.2 ≠ 0 ∧ (uqRun Q i l).2.1 = 0 ∧ i ≤ (uqRun Q i l).2.2.1 ∧ (uqRun Q i l).2.2.1 ≤ i + l.length)
  | [], Q, i, _ => .inr ⟨by simp [uqRun], rfl, by simp [uqRun], by simp [uqRun]⟩
  | c :: l, Q, i, h => by
    rw [uqRun]
    cases ht : takeQ Q c with
    | error e =>
      have := takeQ_err ht
      exact .inr ⟨by dsimp only; omega, rfl, Int.le_refl _, by simp only [List.length_cons]; omega⟩
    | ok Q' =>
      dsimp only
      split
      · exact .inl ⟨rfl, Int.le_refl _, by simp only [List.length_cons]; omega, rfl⟩
      · rcases uq_bd l Q' (i + 1) (by omega) with ⟨a, b, d, e⟩ | ⟨a, b, d, e⟩
        · exact .inl ⟨a, by omega, by rw [List.length_cons]; omega, e⟩
        · exact .inr ⟨a, b, by omega, by rw [List.length_cons]; omega⟩
theorem unq_bd (l : List UInt8) : ((unqM l).2.2.2 = 0 ∧ 1 ≤ (unqM l).2.1 ∧ (unqM l).2.1 ≤ l.length ∧ (unqM l).2.2.1 = 0) ∨ ((unqM l).2.2.2 ≠ 0 ∧ (unqM l).2.1 = 0 ∧ 0 ≤ (unqM l).2.2.1 ∧ (unqM l).2.2.1 ≤ l.length) := by
  have := uq_bd l uq0 0 (Int.le_refl _)
  unfold unqM
  omega
theorem digs_le (l : List UInt8) (i : Nat) : digs (l.drop i) ≤ l.length - i := by
  unfold digs
  have := (List.takeWhile_sublist (l := l.drop i) digB).length_le
  rw [List.length_drop] at this
  exact this
theorem digs_pos {l : List UInt8} {i : Nat} (hi : i < l.length) (h : digB (l.getD i 0) = true) : 1 ≤ digs (l.drop i) := by
  unfold digs
  rw [List.getD_eq_getElem?_getD, List.getElem?_eq_getElem hi] at h
  simp only [Option.getD_some] at h
  rw [List.drop_eq_getElem_cons hi, List.takeWhile_cons, h]
  simp
/-- A text that gives no step. -/
def errS (i e : Int) : Said := (([], 0, false), 0, i, e)
/-- The text of one step. -/
def oneM (l : List UInt8) (i cnt : Nat) : Said :=
  if cnt = 64 then errS i 5
  else if l.getD i 0 ≠ 91 then errS i 4
  else if i + 1 < l.length ∧ digB (l.getD (i + 1) 0) = true then placeM l (i + 1)
  else if i + 1 < l.length ∧ l.getD (i + 1) 0 = 34 then nameM l (i + 1)
  else errS ((i + 1 : Nat) : Int) 4
/-- Its closing bracket. -/
def endM (l : List UInt8) (r : Said) : Said := if r.2.2.2 = 0 ∧ (r.2.1 = (l.length : Int) ∨ l.getD r.2.1.toNat 0 ≠ 93) then errS r.2.1 4 else r
def parseF (l : List UInt8) : Nat → Nat → List PS → List PS × Int × Int
  | 0, _, acc => (acc, 0, 0)
  | f + 1, i, acc =>
    if i < l.length then
      if (endM l (oneM l i acc.length)).2.2.2 ≠ 0 then ([], (endM l (oneM l i acc.length)).2.2.1, (endM l (oneM l i acc.length)).2.2.2)
      else parseF l f ((endM l (oneM l i acc.length)).2.1.toNat + 1) (acc ++ [(endM l (oneM l i acc.length)).1])
    else (acc, 0, 0)
/-- What path.Parse gives: the steps, the place and the number of the error. -/
def parseM (l : List UInt8) : List PS × Int × Int := parseF l (l.length + 1) 0 []
/-- What a step's text that is right says of its end. -/
theorem one_bd (l : List UInt8) (i cnt : Nat) (hi : i < l.length) : (oneM l i cnt).2.2.2 = 0 → (i : Int) + 1 ≤ (oneM l i cnt).2.1 ∧ (oneM l i cnt).2.1 ≤ l.length := by
  unfold oneM
  split
  · intro h; cases h
  split
  · intro h; cases h
  split
  · rename_i h
    obtain ⟨h1, h2⟩ := h
    have a := digs_le l (i + 1)
    have b := digs_pos h1 h2
    unfold placeM
    split
    · intro h; cases h
    · intro _
      dsimp only
      omega
  split
  · rename_i h
    have hu := unq_bd (l.drop (i + 1))
    rw [List.length_drop] at hu
    unfold nameM
    split
    · rename_i he
      intro h
      exact absurd h he
    split
    · intro h; cases h
    · intro _
      dsimp only
      omega
  · intro h; cases h
end
end Go.Proofs.YtlblddeemkefkaaGreatDoor
