/- The walks of parse.reader's next, need, past. -/
import Derived.Test.YtccmhhmdenfecaaGreatDoorLw
import Derived.Test.YtccmhhmdenfecaaGreatDoorJa
import Derived.Test.YtccmhhmdenfecaaGreatDoorJc
import Derived.Test.YtccmhhmdenfecaaGreatDoorEc
import Derived.Deep.RegionHeld3
namespace Go.Proofs.YtccmhhmdenfecaaGreatDoor
set_option linter.unusedVariables false
set_option linter.unusedSimpArgs false
open Go.RowKit Go.Shelf
theorem take_seven {Q Q' : UQ} {c : UInt8} (hI : QInv Q) (h : takeQ Q c = .ok Q') (h7 : Q'.st = 7) : Q'.out = Q.out := by
  have hst := hI.st
  unfold takeQ at h
  by_cases s1 : Q.st = 1
  · rw [if_neg (by omega), if_pos s1] at h
    unfold beginQ at h
    have hp : plainQ Q c = .ok Q' → Q'.out = Q.out := fun h => by have := (plain_inv hI s1 h).2.1; omega
    split at h
    · exact hp h
    split at h
    · cases h; rfl
    split at h
    · cases h; simp at h7
    split at h
    · cases h
    · exact hp h
  · exfalso
    have hw : ∀ (must : UInt8) (next : Int), next ≠ 7 → wantQ Q c must next = .ok Q' → False := by
      intro must next hn hh
      unfold wantQ at hh
      split at hh
      · cases hh; exact hn h7
      · cases hh
    split at h
    · exact hw _ _ (by decide) h
    split at h
    · unfold escapeQ at h
      split at h
      · cases h; simp [putQ] at h7
      split at h
      · cases h; simp at h7
      · cases h
    split at h
    · exact hw _ _ (by decide) h
    split at h
    · exact hw _ _ (by decide) h
    · unfold digitQ at h
      split at h
      · cases h
      split at h
      · cases h
      split at h
      · cases h; simp at h7; omega
      split at h
      · cases h; simp [putQ] at h7
      split at h
      · cases h; simp at h7
      · cases h; simp [putQ] at h7
theorem uq_len : ∀ (l : List UInt8) (Q : UQ) (i : Int), QInv Q → (uqRun Q i l).1.length ≤ Q.out.length + 4 * l.length
  | [], Q, i, _ => by simp [uqRun]
  | c :: l, Q, i, hI => by
    rw [uqRun]
    cases hq : takeQ Q c with
    | error e => simp
    | ok Q' =>
      dsimp only
      by_cases h7 : Q'.st = 7
      · rw [if_pos h7]
        rw [take_seven hI hq h7]
        simp
      · rw [if_neg h7]
        obtain ⟨hI', hl⟩ := take_inv hI hq h7
        have := uq_len l Q' (i + 1) hI'
        simp only [List.length_cons]
        omega
theorem wordM_text (w : List UInt8) (k : Int) (l : List UInt8) (a : Int) : (wordM w k l a).1.text = [] := by unfold wordM; split <;> rfl
theorem intT_text (neg : Bool) (u : Nat) (a b : Int) : (intT neg u a b).1.text = [] := by unfold intT; (repeat' split) <;> rfl
theorem numM_text (l : List UInt8) (a : Int) : (numM l a).1.text = [] := by
  unfold numM numF numE
  (repeat' split) <;> first | rfl | exact intT_text _ _ _ _
theorem tok_text (l : List UInt8) (a : Int) : (tokM l a).1.text.length ≤ 4 * l.length := by
  cases l with
  | nil => simp [tokM]
  | cons c l =>
    rw [tokM]
    cases spellW c with
    | some p =>
      obtain ⟨w, k⟩ := p
      dsimp only
      rw [wordM_text]
      simp
    | none =>
      dsimp only
      by_cases h34 : c = 34
      · rw [if_pos h34]
        unfold litM
        split
        · simp [wrongT]
        · have := uq_len (c :: l) uq0 0 qinv0
          simp only [uq0, List.length_nil, Nat.zero_add] at this
          exact this
      · rw [if_neg h34]
        by_cases hd : c = 45 ∨ digB c = true
        · rw [if_pos hd, numM_text]; simp
        · rw [if_neg hd]; simp [wrongT]
theorem next_text (s : List UInt8) (a : Int) : (nextM s a).1.text.length ≤ 4 * s.length := by
  unfold nextM
  split
  · simp [wrongT]
  · refine Nat.le_trans (tok_text _ _) ?_
    rw [List.length_drop, List.length_drop]
    omega
/-- A token's kind, off its own number. -/
theorem kb_of {n : Nat} {t : TR} (hn : n ≤ 12) (h : t.1.kind = (n : Int) := by rfl) : 0 ≤ t.1.kind ∧ t.1.kind ≤ 12 := by omega
theorem wordM_kind (w : List UInt8) (k : Int) (l : List UInt8) (a : Int) (h : 1 ≤ k ∧ k ≤ 9) : 0 ≤ (wordM w k l a).1.kind ∧ (wordM w k l a).1.kind ≤ 12 := by
  unfold wordM
  split
  · exact ⟨by show 0 ≤ k; omega, by show k ≤ 12; omega⟩
  · exact ⟨by show (0 : Int) ≤ 0; omega, by show (0 : Int) ≤ 12; omega⟩
theorem intT_kind (neg : Bool) (u : Nat) (a b : Int) : 0 ≤ (intT neg u a b).1.kind ∧ (intT neg u a b).1.kind ≤ 12 := by unfold intT; (repeat' split) <;> first | exact kb_of (n := 0) (by decide) rfl | exact kb_of (n := 10) (by decide) rfl | exact kb_of (n := 11) (by decide) rfl
theorem numM_kind (l : List UInt8) (a : Int) : 0 ≤ (numM l a).1.kind ∧ (numM l a).1.kind ≤ 12 := by
  unfold numM numF numE
  (repeat' split) <;> first | exact intT_kind _ _ _ _ | exact kb_of (n := 0) (by decide) rfl
theorem tok_kindb (l : List UInt8) (a : Int) : 0 ≤ (tokM l a).1.kind ∧ (tokM l a).1.kind ≤ 12 := by
  cases l with
  | nil => exact ⟨by show (0 : Int) ≤ 0; omega, by show (0 : Int) ≤ 12; omega⟩
  | cons c l =>
    rw [tokM]
    cases hs : spellW c with
    | some p =>
      obtain ⟨w, k⟩ := p
      obtain ⟨v, -, h1, h2⟩ := spell_first hs
      exact wordM_kind w k _ a ⟨h1, h2⟩
    | none =>
      dsimp only
      by_cases h34 : c = 34
      · rw [if_pos h34]
        unfold litM
        split <;> first | exact kb_of (n := 0) (by decide) rfl | exact kb_of (n := 12) (by decide) rfl
      · rw [if_neg h34]
        by_cases hd : c = 45 ∨ digB c = true
        · rw [if_pos hd]; exact numM_kind _ _
        · rw [if_neg hd]; exact kb_of (n := 0) (by decide) rfl
theorem next_kindb (s : List UInt8) (a : Int) : 0 ≤ (nextM s a).1.kind ∧ (nextM s a).1.kind ≤ 12 := by
  unfold nextM
  split
  · exact kb_of (n := 0) (by decide) rfl
  · exact tok_kindb _ _
/-- The parser's state lies in block R. -/
def PRow (w : World) (R : Nat) (s : List UInt8) (t : Tok) (many : Int) : Prop :=
  w.heap[R]? = some (.cells #[strV s, .int .i64 t.kind, .int .i64 t.from_, .int .i64 t.to_, .int .i64 t.n, .int .u64 t.u, strV t.text, .int .i64 many] 60 (0, 0)) ∧ t.text.length ≤ 4294967296 ∧ 0 ≤ t.kind ∧ t.kind ≤ 12
theorem PRow.lt {w : World} {R : Nat} {s : List UInt8} {t : Tok} {many : Int} (h : PRow w R s t many) : R < w.heap.size := (Array.getElem?_eq_some_iff.1 h.1).1
theorem PRow.cells {w : World} {R : Nat} {s : List UInt8} {t : Tok} {many : Int} (h : PRow w R s t many) :
    w.cell? ⟨R, 0, none⟩ = some (strV s) ∧ w.cell? ⟨R, 1, none⟩ = some (.int .i64 t.kind) ∧ w.cell? ⟨R, 2, none⟩ = some (.int .i64 t.from_) ∧ w.cell? ⟨R, 3, none⟩ = some (.int .i64 t.to_) ∧ w.cell? ⟨R, 4, none⟩ = some (.int .i64 t.n) ∧ w.cell? ⟨R, 5, none⟩ = some (.int .u64 t.u) ∧ w.cell? ⟨R, 6, none⟩ = some (strV t.text) ∧ w.cell? ⟨R, 7, none⟩ = some (.int .i64 many) ∧ ∀ i, w.frozen? ⟨R, i, none⟩ = false :=
  ⟨cell_of_row _ _ _ _ _ _ h.1, cell_of_row _ _ _ _ _ _ h.1, cell_of_row _ _ _ _ _ _ h.1, cell_of_row _ _ _ _ _ _ h.1, cell_of_row _ _ _ _ _ _ h.1, cell_of_row _ _ _ _ _ _ h.1, cell_of_row _ _ _ _ _ _ h.1, cell_of_row _ _ _ _ _ _ h.1, fun i => frozen_of_row _ _ _ _ _ h.1⟩
theorem PRow.same {w w' : World} {R : Nat} {s : List UInt8} {t : Tok} {many : Int} (h : PRow w R s t many) (he : w'.heap[R]? = w.heap[R]?) : PRow w' R s t many := ⟨he.trans h.1, h.2⟩
theorem PRow.below {w w' : World} {R : Nat} {s : List UInt8} {t : Tok} {many : Int} (h : PRow w R s t many) (hb : Below w.heap.size w w') : PRow w' R s t many := h.same (hb.block _ h.lt)
theorem set6_p {w : World} {R : Nat} {a0 a1 a2 a3 a4 a5 a6 a7 : Value} {ty : TypeId} (h : w.heap[R]? = some (.cells #[a0, a1, a2, a3, a4, a5, a6, a7] ty (0, 0))) (v0 v1 v2 v3 v4 v5 : Value) :
    ((((((w.setCell ⟨R, 1, none⟩ v0).setCell ⟨R, 2, none⟩ v1).setCell ⟨R, 3, none⟩ v2).setCell ⟨R, 4, none⟩ v3).setCell ⟨R, 5, none⟩ v4).setCell ⟨R, 6, none⟩ v5).heap[R]? = some (.cells #[a0, v0, v1, v2, v3, v4, v5, a7] ty (0, 0)) := by
  have h0 := heap_setCell_same w R 1 _ _ v0 h
  simp only [List.setIfInBounds_toArray, List.set_cons_zero, List.set_cons_succ] at h0
  have h1 := heap_setCell_same _ R 2 _ _ v1 h0
  simp only [List.setIfInBounds_toArray, List.set_cons_zero, List.set_cons_succ] at h1
  have h2 := heap_setCell_same _ R 3 _ _ v2 h1
  simp only [List.setIfInBounds_toArray, List.set_cons_zero, List.set_cons_succ] at h2
  have h3 := heap_setCell_same _ R 4 _ _ v3 h2
  simp only [List.setIfInBounds_toArray, List.set_cons_zero, List.set_cons_succ] at h3
  have h4 := heap_setCell_same _ R 5 _ _ v4 h3
  simp only [List.setIfInBounds_toArray, List.set_cons_zero, List.set_cons_succ] at h4
  have h5 := heap_setCell_same _ R 6 _ _ v5 h4
  simp only [List.setIfInBounds_toArray, List.set_cons_zero, List.set_cons_succ] at h5
  exact h5
theorem touch6p {w : World} {R : Nat} (v0 v1 v2 v3 v4 v5 : Value) : Touch [R] w ((((((w.setCell ⟨R, 1, none⟩ v0).setCell ⟨R, 2, none⟩ v1).setCell ⟨R, 3, none⟩ v2).setCell ⟨R, 4, none⟩ v3).setCell ⟨R, 5, none⟩ v4).setCell ⟨R, 6, none⟩ v5) :=
  (((((Touch.setCell w R 1 v0).trans (Touch.setCell _ R 2 v1)).trans (Touch.setCell _ R 3 v2)).trans (Touch.setCell _ R 4 v3)).trans (Touch.setCell _ R 5 v4)).trans (Touch.setCell _ R 6 v5)
/-- The panic that carries an error. -/
def panV (x : Int × Int) : List PanicEntry := [{ v := .iface 57 (.agg #[.int .i64 x.1, .int .i64 x.2]), recovered := false }]
theorem need_ok (R : Nat) (e : Int) (w : World) : Calls Tryz.prog 28 #[.pointer (some ⟨R, 0, none⟩), .bool true, .int .i64 e] w fun o w' => o = .returned (.tuple #[]) ∧ w = w' := by
  go_enter Tryz.func28, Tryz.ntmps28
  go_wp2
  go_end0
  exact ⟨rfl, rfl⟩
theorem need_no (s : List UInt8) (t : Tok) (many : Int) (R : Nat) (e : Int) (w : World) (h : PRow w R s t many) : Calls Tryz.prog 28 #[.pointer (some ⟨R, 0, none⟩), .bool false, .int .i64 e] w fun o w' => o = .panicked (panV (t.from_, e)) ∧ w = w' := by
  obtain ⟨-, -, c2, -⟩ := h.cells
  go_enter Tryz.func28, Tryz.ntmps28
  go_wp2
  exact ⟨rfl, rfl, rfl⟩
/-- parse.reader's need. -/
theorem need_any (s : List UInt8) (t : Tok) (many : Int) (R : Nat) (b : Bool) (e : Int) (w : World) (h : PRow w R s t many) : Calls Tryz.prog 28 #[.pointer (some ⟨R, 0, none⟩), .bool b, .int .i64 e] w fun o w' => (if b = true then o = .returned (.tuple #[]) else o = .panicked (panV (t.from_, e))) ∧ w = w' := by
  cases b
  · exact need_no s t many R e w h
  · exact need_ok R e w
/-- What reading on leaves. -/
def NextPost (w : World) (R : Nat) (s : List UInt8) (many : Int) (r : PE Tok) (o : Ending) (w' : World) : Prop :=
  Touch [R] w w' ∧ match r with
  | .ok t1 => o = .returned (.tuple #[]) ∧ PRow w' R s t1 many
  | .error x => o = .panicked (panV x)
theorem stayB {b g : Nat} {w w' : World} {ob : Obj} (h : ExtB b w w') (hg : w.heap[g]? = some ob) (hne : g ≠ b) : w'.heap[g]? = some ob := (h.2 g (Array.getElem?_eq_some_iff.1 hg).1 hne).trans hg
/-- A token's own block: made, then written. -/
def blkK (kd fr to1 n1 u1 : Int) (tx : List UInt8) (b : Nat) (S : Nat → Bool) (w : World) : Prop :=
  w.heap[b]? = some (.cells (if S 14 = true then #[.int .i64 kd, .int .i64 fr, .int .i64 to1, .int .i64 n1, .int .u64 u1, .string ⟨tx.toArray⟩] else #[.int .i64 0, .int .i64 0, .int .i64 0, .int .i64 0, .int .u64 0, .string ⟨#[]⟩]) 43 (0, 0))
theorem blkK_st (kd fr to1 n1 u1 : Int) (tx : List UInt8) : ∀ (b : Nat) (S : Nat → Bool) (w w' : World), b < w.heap.size → Below w.heap.size w w' → blkK kd fr to1 n1 u1 tx b S w → blkK kd fr to1 n1 u1 tx b S w' :=
  fun b S w w' hb h hk => (h.block b hb).trans hk
theorem blkK_sc (kd fr to1 n1 u1 : Int) (tx : List UInt8) : ∀ (b : Nat) (S S' : Nat → Bool) (w : World), (∀ i ∈ [14], S i = S' i) → blkK kd fr to1 n1 u1 tx b S w → blkK kd fr to1 n1 u1 tx b S' w := by
  intro b S S' w h hk
  unfold blkK at hk ⊢
  rwa [← h 14 (by decide)]
theorem row6_tok {w : World} {Z : Nat} {a0 a1 a2 a3 a4 a5 : Value} {ty : TypeId} (h : w.heap[Z]? = some (.cells #[a0, a1, a2, a3, a4, a5] ty (0, 0))) (v0 v1 v2 v3 v4 v5 : Value) :
    ((((((w.setCell ⟨Z, 0, none⟩ v0).setCell ⟨Z, 1, none⟩ v1).setCell ⟨Z, 2, none⟩ v2).setCell ⟨Z, 3, none⟩ v3).setCell ⟨Z, 4, none⟩ v4).setCell ⟨Z, 5, none⟩ v5).heap[Z]? = some (.cells #[v0, v1, v2, v3, v4, v5] ty (0, 0)) := row6_set h v0 v1 v2 v3 v4 v5
set_option maxHeartbeats 2000000 in
theorem opwp_storeT {o : Oper} {a : Act} {w : World} {K : Act → World → Prop} {Q : Exit → Act → World → Prop} {x y : Tmp} {b : Nat} {z0 z1 z2 z3 z4 z5 : Value} {v0 v1 v2 v3 : Int} {v4 : Int} {v5 : ByteArray} (hop : o.op = .store 43 (.tmp x) (.tmp y)) (hd : o.dst = none)
    (hx : a.eval (.tmp x) = .pointer (some ⟨b, 0, none⟩)) (hy : a.eval (.tmp y) = .agg #[.int .i64 v0, .int .i64 v1, .int .i64 v2, .int .i64 v3, .int .u64 v4, .string v5])
    (h : w.heap[b]? = some (.cells #[z0, z1, z2, z3, z4, z5] 43 (0, 0)))
    (hK : ∀ w', w'.heap[b]? = some (.cells #[.int .i64 v0, .int .i64 v1, .int .i64 v2, .int .i64 v3, .int .u64 v4, .string v5] 43 (0, 0)) → ExtB b w w' → w'.heap.size = w.heap.size → (∀ w0 : World, w0.heap.size ≤ b → Below w0.heap.size w0 w → Below w0.heap.size w0 w') → K a w') : o.wp Tryz.prog a w K Q := by
  obtain ⟨n0, n1, n2, n3, n4, n5⟩ : w.cell? ⟨b, 0, none⟩ = some z0 ∧ w.cell? ⟨b, 1, none⟩ = some z1 ∧ w.cell? ⟨b, 2, none⟩ = some z2 ∧ w.cell? ⟨b, 3, none⟩ = some z3 ∧ w.cell? ⟨b, 4, none⟩ = some z4 ∧ w.cell? ⟨b, 5, none⟩ = some z5 := ⟨cell_of_row _ _ _ _ _ _ h, cell_of_row _ _ _ _ _ _ h, cell_of_row _ _ _ _ _ _ h, cell_of_row _ _ _ _ _ _ h, cell_of_row _ _ _ _ _ _ h, cell_of_row _ _ _ _ _ _ h⟩
  have f0 : w.frozen? ⟨b, 0, none⟩ = false := frozen_of_row _ _ _ _ _ h
  have f1 : w.frozen? ⟨b, 1, none⟩ = false := frozen_of_row _ _ _ _ _ h
  have f2 : w.frozen? ⟨b, 2, none⟩ = false := frozen_of_row _ _ _ _ _ h
  have f3 : w.frozen? ⟨b, 3, none⟩ = false := frozen_of_row _ _ _ _ _ h
  have f4 : w.frozen? ⟨b, 4, none⟩ = false := frozen_of_row _ _ _ _ _ h
  have f5 : w.frozen? ⟨b, 5, none⟩ = false := frozen_of_row _ _ _ _ _ h
  have hrow := row6_tok h (.int .i64 v0) (.int .i64 v1) (.int .i64 v2) (.int .i64 v3) (.int .u64 v4) (.string v5)
  have HK := Lib.hid hK
  clear hK
  have e : (execOp a.eval o).run Tryz.prog w = .ok .skip ((((((w.setCell ⟨b, 0, none⟩ (.int .i64 v0)).setCell ⟨b, 1, none⟩ (.int .i64 v1)).setCell ⟨b, 2, none⟩ (.int .i64 v2)).setCell ⟨b, 3, none⟩ (.int .i64 v3)).setCell ⟨b, 4, none⟩ (.int .u64 v4)).setCell ⟨b, 5, none⟩ (.string v5)) := by
    clear h hrow HK
    simp only [execOp, hop, hx, hy]
    go_simp
  unfold Oper.wp
  rw [e, Oper.upon_skip, hd]
  exact HK.out _ hrow ⟨by simp, fun k hk hne => (touch6 (Y := b) (w := w) _ _ _ _ _ _).block k hk (by simpa using hne)⟩ (by simp) (fun w0 hb1 hb => below_six hb hb1 _ _ _ _ _ _)
def pNx (R : Nat) (s : List UInt8) (tk : Tok) (kd fr to1 n1 : Int) (u1 : Int) (tx : List UInt8) (er : Int) : Posts := fun b t v w => match t with
  | 0 => v = .pointer (some ⟨R, 0, none⟩)
  | 5 => v = .pointer (some ⟨R, 0, none⟩)
  | 6 => v = .pointer (some ⟨R, 0, none⟩)
  | 7 => v = .pointer (some ⟨R, 0, none⟩)
  | 8 => v = .string ⟨s.toArray⟩
  | 9 => v = .pointer (some ⟨R, 0, none⟩)
  | 10 => v = .pointer (some ⟨R, 0, none⟩)
  | 11 => v = .pointer (some ⟨R, 1, none⟩)
  | 12 => v = .pointer (some ⟨R, 3, none⟩)
  | 13 => v = .int .i64 tk.to_
  | 14 => v = .tuple #[.agg #[.int .i64 kd, .int .i64 fr, .int .i64 to1, .int .i64 n1, .int .u64 u1, .string ⟨tx.toArray⟩], .int .i64 er]
  | 4 => v = .tuple #[.agg #[.int .i64 kd, .int .i64 fr, .int .i64 to1, .int .i64 n1, .int .u64 u1, .string ⟨tx.toArray⟩], .int .i64 er]
  | 15 => v = .agg #[.int .i64 kd, .int .i64 fr, .int .i64 to1, .int .i64 n1, .int .u64 u1, .string ⟨tx.toArray⟩]
  | 16 => v = .int .i64 er
  | 2 => v = .pointer (some ⟨b, 0, none⟩)
  | 3 => v = .int .i64 er
  | _ => True
theorem pNx_st (R : Nat) (s : List UInt8) (tk : Tok) (kd fr to1 n1 : Int) (u1 : Int) (tx : List UInt8) (er : Int) : ∀ (b : Nat) (t : Tmp) (v : Value) (w w' : World), ExtB b w w' → pNx R s tk kd fr to1 n1 u1 tx er b t v w → pNx R s tk kd fr to1 n1 u1 tx er b t v w' := by
  intro b t v w w' hE
  unfold pNx
  split
  · exact id
  · exact id
  · exact id
  · exact id
  · exact id
  · exact id
  · exact id
  · exact id
  · exact id
  · exact id
  · exact id
  · exact id
  · exact id
  · exact id
  · exact id
  · exact id
  · exact id
set_option maxHeartbeats 8000000 in
set_option maxRecDepth 100000 in
theorem nextr_any (s : List UInt8) (tk : Tok) (many : Int) (R : Nat) (w : World) (h : PRow w R s tk many) (hl : s.length ≤ 1073741824) (hG : Glb w) (hB : Gb R) :
    Calls Tryz.prog 26 #[.pointer (some ⟨R, 0, none⟩)] w (NextPost w R s many (nextP s tk)) := by
  obtain ⟨c0, c1, c2, c3, c4, c5, c6, c7, cf⟩ := h.cells
  have hR := h.lt
  have HP := Lib.hid h
  have HL := Lib.hid fun (W : World) (hW : Below w.heap.size w W) => next_any s tk.to_ W hl (hG.below hW (hB.mono (Nat.le_of_lt hR))) (hB.mono (Nat.le_trans (Nat.le_of_lt hR) hW.size))
  have htx := next_text s tk.to_
  have hkb := next_kindb s tk.to_
  unfold nextP
  generalize nextM s tk.to_ = q at *
  obtain ⟨⟨kd, fr, to1, n1, u1, tx⟩, er⟩ := q
  unfold trV tokV strV at HL
  unfold strV at c0 c6
  dsimp only at HL htx hkb ⊢
  clear h hG hB c1 c2 c4 c5 c6 c7
  generalize hres : (if er ≠ 0 then (.error (fr, er) : PE Tok) else .ok ⟨kd, fr, to1, n1, u1, tx⟩) = res
  have HR := Lib.hid hres
  clear hres cf
  go_enter Tryz.func26, Tryz.ntmps26
  go_upto_region 0 with fail
  refine wp_region_eachMP (n := 28) (ia := 13) (ob := .cells #[.int .i64 0, .int .i64 0, .int .i64 0, .int .i64 0, .int .u64 0, .string ⟨#[]⟩] 43) [14] [5, 6, 7, 8, 9, 10, 11, 12, 13, 14, 4, 15, 16, 2, 3] (pNx R s tk kd fr to1 n1 u1 tx er) (blkK kd fr to1 n1 u1 tx) (by kernel_rfl) (by kernel_rfl) rfl (by kernel_rfl) (pNx_st R s tk kd fr to1 n1 u1 tx er) (blkK_st kd fr to1 n1 u1 tx) (blkK_sc kd fr to1 n1 u1 tx) ?_ rfl rfl rfl (V := fun b => .pointer (some ⟨b, 0, none⟩)) ?_ (fun _ _ => rfl) ?_ (by decide) (by decide) ?_ ?_ ?_ ?_
  · intro b hb t ht
    unfold pNx
    split
    · rfl
    · exact absurd rfl (ht 0 _ rfl)
    · exact absurd rfl (ht 1 _ rfl)
    · exact absurd rfl (ht 2 _ rfl)
    · exact absurd rfl (ht 3 _ rfl)
    · exact absurd rfl (ht 4 _ rfl)
    · exact absurd rfl (ht 5 _ rfl)
    · exact absurd rfl (ht 6 _ rfl)
    · exact absurd rfl (ht 7 _ rfl)
    · exact absurd rfl (ht 8 _ rfl)
    · exact absurd rfl (ht 9 _ rfl)
    · exact absurd rfl (ht 10 _ rfl)
    · exact absurd rfl (ht 11 _ rfl)
    · exact absurd rfl (ht 12 _ rfl)
    · exact absurd rfl (ht 13 _ rfl)
    · exact absurd rfl (ht 15 _ rfl)
    · trivial
  · intro a w K hK
    exact opwp_val (w' := w.alloc (.cells #[.int .i64 0, .int .i64 0, .int .i64 0, .int .i64 0, .int .u64 0, .string ⟨#[]⟩] 43)) (.pointer (some ⟨w.heap.size, 0, none⟩)) (by simp only [execOp]; go_simp) hK
  · intro w
    exact heap_alloc_new _ _
  · intro i hi os hos
    simp only [List.mem_cons, List.not_mem_nil, or_false] at hi
    subst hi
    all_goals
      simp only [List.getElem?_toArray, List.getElem?_cons_zero, List.getElem?_cons_succ, Option.some.injEq] at hos
      subst hos
      exact ⟨rfl, by kernel_rfl⟩
  · intro i hi os hos b S a w hb hb1 hb2 hk hSi hblk
    simp only [List.mem_cons, List.not_mem_nil, or_false] at hi
    subst hi
    · simp only [List.getElem?_toArray, List.getElem?_cons_zero, List.getElem?_cons_succ, Option.some.injEq] at hos
      subst hos
      have e2 : a.eval (.tmp 2) = .pointer (some ⟨b, 0, none⟩) := hk 2 (by decide)
      have e15 : a.eval (.tmp 15) = .agg #[.int .i64 kd, .int .i64 fr, .int .i64 to1, .int .i64 n1, .int .u64 u1, .string ⟨tx.toArray⟩] := hk 15 (by decide)
      unfold blkK at hblk
      rw [hSi, if_neg (by decide)] at hblk
      refine ⟨rfl, opwp_storeT rfl rfl e2 e15 hblk ?_⟩
      intro w' q1 q2 q3 q4
      exact ⟨rfl, q2, q3, q4 _ hb1 hb, by unfold blkK; rw [if_pos (if_pos rfl)]; exact q1⟩
  · intro jq oq hjq hne1 hne2
    match jq, hjq, hne1, hne2 with
    | 0, hjq, _, _ =>
      simp only [List.getElem?_toArray, List.getElem?_cons_zero, List.getElem?_cons_succ, Option.some.injEq] at hjq
      subst hjq
      intro B a w hB hb hk
      obtain ⟨b0, hb0⟩ := hB
      have e0 : a.eval (.tmp 0) = .pointer (some ⟨R, 0, none⟩) := hk b0 hb0 0 (by decide)
      refine ⟨rfl, opwp_move rfl e0 ?_⟩
      exact ⟨Below.refl _ _, _, rfl, fun d hd b _ _ => by cases hd; rfl⟩
    | 1, hjq, _, _ =>
      simp only [List.getElem?_toArray, List.getElem?_cons_zero, List.getElem?_cons_succ, Option.some.injEq] at hjq
      subst hjq
      intro B a w hB hb hk
      obtain ⟨b0, hb0⟩ := hB
      have e5 : a.eval (.tmp 5) = .pointer (some ⟨R, 0, none⟩) := hk b0 hb0 5 (by decide)
      refine ⟨rfl, opwp_nc rfl e5 ?_⟩
      exact ⟨Below.refl _ _, _, rfl, fun d hd b _ _ => by cases hd; rfl⟩
    | 2, hjq, _, _ =>
      simp only [List.getElem?_toArray, List.getElem?_cons_zero, List.getElem?_cons_succ, Option.some.injEq] at hjq
      subst hjq
      intro B a w hB hb hk
      obtain ⟨b0, hb0⟩ := hB
      have e6 : a.eval (.tmp 6) = .pointer (some ⟨R, 0, none⟩) := hk b0 hb0 6 (by decide)
      refine ⟨rfl, opwp_faR0 rfl e6 ?_⟩
      exact ⟨Below.refl _ _, _, rfl, fun d hd b _ _ => by cases hd; rfl⟩
    | 3, hjq, _, _ =>
      simp only [List.getElem?_toArray, List.getElem?_cons_zero, List.getElem?_cons_succ, Option.some.injEq] at hjq
      subst hjq
      intro B a w hB hb hk
      obtain ⟨b0, hb0⟩ := hB
      have e7 : a.eval (.tmp 7) = .pointer (some ⟨R, 0, none⟩) := hk b0 hb0 7 (by decide)
      refine ⟨rfl, opwp_ldS rfl e7 ((hb.cell (p := ⟨R, 0, none⟩) hR).trans c0) ?_⟩
      exact ⟨Below.refl _ _, _, rfl, fun d hd b _ _ => by cases hd; rfl⟩
    | 4, hjq, _, _ =>
      simp only [List.getElem?_toArray, List.getElem?_cons_zero, List.getElem?_cons_succ, Option.some.injEq] at hjq
      subst hjq
      intro B a w hB hb hk
      obtain ⟨b0, hb0⟩ := hB
      have e0 : a.eval (.tmp 0) = .pointer (some ⟨R, 0, none⟩) := hk b0 hb0 0 (by decide)
      refine ⟨rfl, opwp_move rfl e0 ?_⟩
      exact ⟨Below.refl _ _, _, rfl, fun d hd b _ _ => by cases hd; rfl⟩
    | 5, hjq, _, _ =>
      simp only [List.getElem?_toArray, List.getElem?_cons_zero, List.getElem?_cons_succ, Option.some.injEq] at hjq
      subst hjq
      intro B a w hB hb hk
      obtain ⟨b0, hb0⟩ := hB
      have e9 : a.eval (.tmp 9) = .pointer (some ⟨R, 0, none⟩) := hk b0 hb0 9 (by decide)
      refine ⟨rfl, opwp_nc rfl e9 ?_⟩
      exact ⟨Below.refl _ _, _, rfl, fun d hd b _ _ => by cases hd; rfl⟩
    | 6, hjq, _, _ =>
      simp only [List.getElem?_toArray, List.getElem?_cons_zero, List.getElem?_cons_succ, Option.some.injEq] at hjq
      subst hjq
      intro B a w hB hb hk
      obtain ⟨b0, hb0⟩ := hB
      have e10 : a.eval (.tmp 10) = .pointer (some ⟨R, 0, none⟩) := hk b0 hb0 10 (by decide)
      refine ⟨rfl, opwp_faR1 rfl e10 ?_⟩
      exact ⟨Below.refl _ _, _, rfl, fun d hd b _ _ => by cases hd; rfl⟩
    | 7, hjq, _, _ =>
      simp only [List.getElem?_toArray, List.getElem?_cons_zero, List.getElem?_cons_succ, Option.some.injEq] at hjq
      subst hjq
      intro B a w hB hb hk
      obtain ⟨b0, hb0⟩ := hB
      have e11 : a.eval (.tmp 11) = .pointer (some ⟨R, 1, none⟩) := hk b0 hb0 11 (by decide)
      refine ⟨rfl, opwp_faK2 rfl e11 ?_⟩
      exact ⟨Below.refl _ _, _, rfl, fun d hd b _ _ => by cases hd; rfl⟩
    | 8, hjq, _, _ =>
      simp only [List.getElem?_toArray, List.getElem?_cons_zero, List.getElem?_cons_succ, Option.some.injEq] at hjq
      subst hjq
      intro B a w hB hb hk
      obtain ⟨b0, hb0⟩ := hB
      have e12 : a.eval (.tmp 12) = .pointer (some ⟨R, 3, none⟩) := hk b0 hb0 12 (by decide)
      refine ⟨rfl, opwp_ldI rfl e12 ((hb.cell (p := ⟨R, 3, none⟩) hR).trans c3) ?_⟩
      exact ⟨Below.refl _ _, _, rfl, fun d hd b _ _ => by cases hd; rfl⟩
    | 9, hjq, _, _ =>
      simp only [List.getElem?_toArray, List.getElem?_cons_zero, List.getElem?_cons_succ, Option.some.injEq] at hjq
      subst hjq
      intro B a w hB hb hk
      obtain ⟨b0, hb0⟩ := hB
      have e8 : a.eval (.tmp 8) = .string ⟨s.toArray⟩ := hk b0 hb0 8 (by decide)
      have e13 : a.eval (.tmp 13) = .int .i64 tk.to_ := hk b0 hb0 13 (by decide)
      refine ⟨rfl, opwp_call (fun v w' => v = .tuple #[.agg #[.int .i64 kd, .int .i64 fr, .int .i64 to1, .int .i64 n1, .int .u64 u1, .string ⟨tx.toArray⟩], .int .i64 er] ∧ Below w.heap.size w w') (exec_call [a.eval (.tmp 8), a.eval (.tmp 13)] Tryz.func43 (by kernel_rfl) rfl rfl rfl) ?_ ?_⟩
      · rw [e8, e13]
        refine (HL.out w hb).mono ?_
        rintro e w' ⟨rfl, h⟩
        exact ⟨_, rfl, rfl, h⟩
      · rintro v w' ⟨rfl, h⟩
        exact ⟨h, _, rfl, fun d hd b _ _ => by cases hd; rfl⟩
    | 10, hjq, _, _ =>
      simp only [List.getElem?_toArray, List.getElem?_cons_zero, List.getElem?_cons_succ, Option.some.injEq] at hjq
      subst hjq
      intro B a w hB hb hk
      obtain ⟨b0, hb0⟩ := hB
      have e14 : a.eval (.tmp 14) = .tuple #[.agg #[.int .i64 kd, .int .i64 fr, .int .i64 to1, .int .i64 n1, .int .u64 u1, .string ⟨tx.toArray⟩], .int .i64 er] := hk b0 hb0 14 (by decide)
      refine ⟨rfl, opwp_move rfl e14 ?_⟩
      exact ⟨Below.refl _ _, _, rfl, fun d hd b _ _ => by cases hd; rfl⟩
    | 11, hjq, _, _ =>
      simp only [List.getElem?_toArray, List.getElem?_cons_zero, List.getElem?_cons_succ, Option.some.injEq] at hjq
      subst hjq
      intro B a w hB hb hk
      obtain ⟨b0, hb0⟩ := hB
      have e4 : a.eval (.tmp 4) = .tuple #[.agg #[.int .i64 kd, .int .i64 fr, .int .i64 to1, .int .i64 n1, .int .u64 u1, .string ⟨tx.toArray⟩], .int .i64 er] := hk b0 hb0 4 (by decide)
      refine ⟨rfl, opwp_ext (.agg #[.int .i64 kd, .int .i64 fr, .int .i64 to1, .int .i64 n1, .int .u64 u1, .string ⟨tx.toArray⟩]) rfl e4 rfl ?_⟩
      exact ⟨Below.refl _ _, _, rfl, fun d hd b _ _ => by cases hd; rfl⟩
    | 12, hjq, _, _ =>
      simp only [List.getElem?_toArray, List.getElem?_cons_zero, List.getElem?_cons_succ, Option.some.injEq] at hjq
      subst hjq
      intro B a w hB hb hk
      obtain ⟨b0, hb0⟩ := hB
      have e4 : a.eval (.tmp 4) = .tuple #[.agg #[.int .i64 kd, .int .i64 fr, .int .i64 to1, .int .i64 n1, .int .u64 u1, .string ⟨tx.toArray⟩], .int .i64 er] := hk b0 hb0 4 (by decide)
      refine ⟨rfl, opwp_ext (.int .i64 er) rfl e4 rfl ?_⟩
      exact ⟨Below.refl _ _, _, rfl, fun d hd b _ _ => by cases hd; rfl⟩
    | 13, hjq, h, _ => exact absurd rfl h
    | 14, hjq, _, h => exact absurd (by decide) h
    | 15, hjq, _, _ =>
      simp only [List.getElem?_toArray, List.getElem?_cons_zero, List.getElem?_cons_succ, Option.some.injEq] at hjq
      subst hjq
      intro B a w hB hb hk
      obtain ⟨b0, hb0⟩ := hB
      have e16 : a.eval (.tmp 16) = .int .i64 er := hk b0 hb0 16 (by decide)
      refine ⟨rfl, opwp_assign rfl e16 ?_⟩
      exact ⟨Below.refl _ _, _, rfl, fun d hd b _ _ => by cases hd; rfl⟩
    | kq + 16, hjq, _, _ => cases hjq
  intro P2 f w1 hb hp1 hp2 hp hblk
  have e2 : f 2 = .pointer (some ⟨P2, 0, none⟩) := hp 2 (by decide)
  have e3 : f 3 = .int .i64 er := hp 3 (by decide)
  simp only [puts, List.foldl, Act.put, List.setIfInBounds_toArray, List.set_cons_zero, List.set_cons_succ]
  simp only [e2, e3]
  generalize f 5 = v5
  generalize f 6 = v6
  generalize f 7 = v7
  generalize f 8 = v8
  generalize f 9 = v9
  generalize f 10 = v10
  generalize f 11 = v11
  generalize f 12 = v12
  generalize f 13 = v13
  generalize f 14 = v14
  generalize f 4 = v4
  generalize f 15 = v15
  generalize f 16 = v16
  have hblk2 : w1.heap[P2]? = some (.cells #[.int .i64 kd, .int .i64 fr, .int .i64 to1, .int .i64 n1, .int .u64 u1, .string ⟨tx.toArray⟩] 43 (0, 0)) := hblk
  have hP1 := HP.out.below hb
  obtain ⟨d0, d1, d2, d3, d4, d5, d6, d7, df⟩ := hP1.cells
  have y0 : w1.cell? ⟨P2, 0, none⟩ = some (.int .i64 kd) := cell_of_row _ _ _ _ _ _ hblk2
  have y1 : w1.cell? ⟨P2, 1, none⟩ = some (.int .i64 fr) := cell_of_row _ _ _ _ _ _ hblk2
  have y2 : w1.cell? ⟨P2, 2, none⟩ = some (.int .i64 to1) := cell_of_row _ _ _ _ _ _ hblk2
  have y3 : w1.cell? ⟨P2, 3, none⟩ = some (.int .i64 n1) := cell_of_row _ _ _ _ _ _ hblk2
  have y4 : w1.cell? ⟨P2, 4, none⟩ = some (.int .u64 u1) := cell_of_row _ _ _ _ _ _ hblk2
  have y5 : w1.cell? ⟨P2, 5, none⟩ = some (.string ⟨tx.toArray⟩) := cell_of_row _ _ _ _ _ _ hblk2
  have f1 := df 1
  have f2 := df 2
  have f3 := df 3
  have f4 := df 4
  have f5 := df 5
  have f6 := df 6
  have HB := Lib.hid hb
  have HP1 := Lib.hid hP1
  clear hp e2 e3 hblk hblk2 hb hP1 df HP HL c0 c3 d0 d7
  by_cases her : er = 0
  · have ez : (er != 0) = false := by simp [her]
    have HRR := Lib.hid (show res = .ok ⟨kd, fr, to1, n1, u1, tx⟩ by rw [← HR.out, if_neg (by simp [her])])
    clear her
    go_wp2
    go_end0
    rw [HRR.out]
    exact ⟨(Touch.quiet HB.out).trans (touch6p _ _ _ _ _ _), rfl, ⟨set6_p HP1.out.1 _ _ _ _ _ _, by show tx.length ≤ 4294967296; omega, hkb.1, hkb.2⟩⟩
  · have ez : (er != 0) = true := by simp [her]
    have HRR := Lib.hid (show res = .error (fr, er) by rw [← HR.out, if_pos her])
    clear her
    go_wp2
    refine ⟨rfl, ?_⟩
    rw [HRR.out]
    exact ⟨Touch.quiet HB.out, rfl⟩
end Go.Proofs.YtccmhhmdenfecaaGreatDoor
