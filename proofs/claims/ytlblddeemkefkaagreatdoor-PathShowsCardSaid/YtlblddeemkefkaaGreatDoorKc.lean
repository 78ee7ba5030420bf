/- Small facts on strings: one byte cut out, sums. The walk of strings.IndexRune on utf.Quote's eight bytes, from rune 128 on; (*strings.Builder).String of a Builder in its own block. -/
import Derived.Test.YtlblddeemkefkaaGreatDoorEa
import Derived.Test.YtlblddeemkefkaaGreatDoorLb
import Derived.Laws.Runes
import Derived.Lib.OthersKept
namespace Go.Proofs.YtlblddeemkefkaaGreatDoor
set_option linter.unusedVariables false
set_option linter.unusedSimpArgs false
set_option linter.unusedSectionVars false
section
open Go.RowKit Go.Shelf
theorem below_drew1 {B : Nat} {w w' : World} (h : Below B w w') : Below B w w'.drew := by have := below_drewN h 1; exact this
theorem slice1 {x : List UInt8} {m : Nat} (hm : m < x.length) (W : World) : (Instr.slice 9 (.string ⟨x.toArray⟩) (some (.int .i64 m)) (some (.int .i64 ((m : Int) + 1))) none).run Tryz.prog W = .ok (.string ⟨#[x.getD m 0]⟩) W := by
  have h := sub_run x m (m + 1) (by omega) (by omega) W
  rw [show ((m + 1 : Nat) : Int) = (m : Int) + 1 from rfl] at h
  rw [h]
  have e : (x.drop m).take (m + 1 - m) = [x.getD m 0] := by
    rw [Nat.add_sub_cancel_left, List.drop_eq_getElem_cons hm, List.take_succ_cons, List.take_zero, List.getD_eq_getElem?_getD, List.getElem?_eq_getElem hm]
    rfl
  rw [e]
theorem str_app (a b : List UInt8) : (⟨a.toArray⟩ : ByteArray) ++ ⟨b.toArray⟩ = ⟨(a ++ b).toArray⟩ := by
  apply ByteArray.ext
  rw [ByteArray.data_append]
  simp
theorem str_add (a b : List UInt8) (h : a.length + b.length ≤ 9223372036854775807) (W : World) : (binOp .add 9 (.string ⟨a.toArray⟩) (.string ⟨b.toArray⟩)).run Tryz.prog W = .ok (.string ⟨(a ++ b).toArray⟩) W := by
  have e : (⟨a.toArray⟩ : ByteArray) ++ ⟨b.toArray⟩ = ⟨(a ++ b).toArray⟩ := by
    apply ByteArray.ext
    rw [ByteArray.data_append]
    simp
  have hz : (⟨a.toArray⟩ : ByteArray).size + (⟨b.toArray⟩ : ByteArray).size ≤ 9223372036854775807 := by simp [ByteArray.size]; omega
  simp [go_sem, e, ByteArray.size, h]
end
section
open Go.RowKit Go.Shelf
section
variable {B R : Nat} {w : World} {o : List UInt8} {addr buf : Value}
set_option maxHeartbeats 4000000 in
set_option maxRecDepth 100000 in
theorem bstring_any (h0 : o ≠ []) (h : BOk B w R o addr buf) :
    Calls Tryz.prog 43 #[.pointer (some ⟨R, 0, none⟩)] w fun e w' => e = .returned (strV o) ∧ Below B w w' := by
  have hl0 : o.length ≠ 0 := by simpa using h0
  obtain ⟨g, cap, cur, rfl, hbg, hg, hnc, hcm, hcs, htake⟩ : ∃ g cap cur, buf = .slice (some ⟨g, 0, none⟩) o.length cap ∧ B ≤ g ∧ w.heap[g]? = some (.cells cur 5 (0, 0)) ∧ o.length ≤ cap ∧ cap ≤ maxLen ∧ cur.size = cap * 1 ∧ cur.toList.take (o.length * 1) = Lib.byteCells o := by
    rcases h.own.2 with ⟨_, hz⟩ | ⟨g, cap, cur, hv, r⟩
    · exact absurd hz hl0
    · exact ⟨g, cap, cur, hv, r⟩
  have c2 : w.drew.cell? ⟨R, 1, none⟩ = some (.slice (some ⟨g, 0, none⟩) o.length cap) := (cellB h.row).2.1
  have hSD : (Builtin.unsafeSliceData_ #[61] 101 #[.slice (some ⟨g, 0, none⟩) o.length cap]).run Tryz.prog w.drew = .ok (.pointer (some ⟨g, 0, none⟩)) w.drew :=
    Lib.run_unsafeSliceData_row _ _ _ _ _ _ (by omega)
  have hUS : (Builtin.unsafeString_ #[101, 3] 9 #[.pointer (some ⟨g, 0, none⟩), .int .i64 o.length]).run Tryz.prog w.drew = .ok (.string ⟨o.toArray⟩) (w.drew.freeze ⟨g, 0, none⟩ o.length) := by
    refine Lib.run_unsafeString_row w.drew 101 3 9 5 Tryz.underlying101 cellsB g cur.size (by have hg' : w.drew.heap[g]? = some (.cells cur 5 (0, 0)) := hg; simp [World.shape?, hg']) o h0 (by omega) (by unfold maxLen at hcm; omega) ?_
    intro j x hx
    have := h.own.cells (g := g) rfl j (.int .u8 x.toNat) (by simp [Lib.byteCells, hx])
    exact this
  clear h hcs htake hg
  unfold strV
  go_enter Tryz.func43, Tryz.ntmps43
  go_wp2
  go_region
  all_goals (go_wp2; go_ret; exact ⟨rfl, Lib.below_freeze (Below.drew (Below.refl B w)) (p := ⟨g, 0, none⟩) hbg _⟩)
end
/-- utf.Quote's bytes. -/
def qL : List UInt8 := [34, 92, 47, 8, 12, 10, 13, 9]
theorem q_idx {j : Nat} (hj : j < 8) (h : j < (⟨#[34, 92, 47, 8, 12, 10, 13, 9]⟩ : ByteArray).size) : (⟨#[34, 92, 47, 8, 12, 10, 13, 9]⟩ : ByteArray)[j]'h = qL.getD j 0 := by
  show (#[34, 92, 47, 8, 12, 10, 13, 9] : Array UInt8)[j]'h = _
  simp [qL, List.getD_eq_getElem?_getD, hj]
theorem q_ascii {j : Nat} (hj : j < 8) (h : j < (⟨#[34, 92, 47, 8, 12, 10, 13, 9]⟩ : ByteArray).size) : ((⟨#[34, 92, 47, 8, 12, 10, 13, 9]⟩ : ByteArray)[j]'h).toNat < 128 := by
  rw [q_idx hj h]
  have hall : ∀ i : Fin 8, (qL.getD i.val 0).toNat < 128 := by decide
  exact hall ⟨j, hj⟩
set_option maxHeartbeats 4000000 in
set_option maxRecDepth 100000 in
theorem irune_err (w : World) : Calls Tryz.prog 76 #[.string ⟨#[34, 92, 47, 8, 12, 10, 13, 9]⟩, .int .i32 65533] w fun e w' => e = .returned (.int .i64 (-1)) ∧ Below w.heap.size w w' := by
  have hs : (⟨#[34, 92, 47, 8, 12, 10, 13, 9]⟩ : ByteArray).size = 8 := rfl
  have hstart := World.iter_heap w (⟨#[34, 92, 47, 8, 12, 10, 13, 9]⟩ : ByteArray) 0
  have H0 := Lib.hid hstart
  clear hstart
  go_enter Tryz.func76, Tryz.ntmps76
  go_wp2_with fail
  go_loopw [] (fun wr => ∃ pos : Nat, pos ≤ 8 ∧ wr.heap[w.heap.size]? = some (.stringIter ⟨#[34, 92, 47, 8, 12, 10, 13, 9]⟩ pos) ∧ Below w.heap.size w wr) (fun wr => 8 - wr.iterPos w.heap.size)
  case atStart => exact ⟨0, by omega, by simpa using H0.out, (Below.refl _ w).alloc (Nat.le_refl _) _⟩
  case round =>
    clear H0
    obtain ⟨pos, hp8, hit, hb⟩ := hrel
    by_cases hp : pos < 8
    · have hps : pos < (⟨#[34, 92, 47, 8, 12, 10, 13, 9]⟩ : ByteArray).size := by omega
      have hc := q_ascii hp hps
      have hnx : ∀ ty, (Instr.next (.pointer (some ⟨w.heap.size, 0, none⟩)) true ty).run Tryz.prog wr = _ := fun ty => Lib.run_next_ascii_at wr w.heap.size _ pos ty hit hps hc
      have hit2 := Lib.iterAt_heap wr w.heap.size _ pos (pos + 1) hit
      have hb2 := Lib.below_iterAt hb (k := w.heap.size) (Nat.le_refl _) (⟨#[34, 92, 47, 8, 12, 10, 13, 9]⟩ : ByteArray) (pos + 1)
      have hm : wr.iterPos w.heap.size = pos := by simp [World.iterPos, hit]
      have hm2 : (wr.iterAt w.heap.size (⟨#[34, 92, 47, 8, 12, 10, 13, 9]⟩ : ByteArray) (pos + 1)).iterPos w.heap.size = pos + 1 := by simp [World.iterPos, hit2]
      have HF := Lib.hid (And.intro hit2 (And.intro hb2 (And.intro hm hm2)))
      have hez : ((((⟨#[34, 92, 47, 8, 12, 10, 13, 9]⟩ : ByteArray)[pos]'hps).toNat : Int) == 65533) = false := by
        simp only [beq_eq_false_iff_ne, ne_eq]; omega
      generalize ((⟨#[34, 92, 47, 8, 12, 10, 13, 9]⟩ : ByteArray)[pos]'hps).toNat = c at *
      generalize hW : wr.iterAt w.heap.size (⟨#[34, 92, 47, 8, 12, 10, 13, 9]⟩ : ByteArray) (pos + 1) = wi at *
      clear hit hb hit2 hb2 hm hm2 hc hW
      go_wp2_with fail
      go_roundw
      case rel => exact ⟨pos + 1, by omega, HF.out.1, HF.out.2.1⟩
      case measure => have h := HF.out; rw [h.2.2.1, h.2.2.2]; omega
    · have hps : ¬ pos < (⟨#[34, 92, 47, 8, 12, 10, 13, 9]⟩ : ByteArray).size := by omega
      have hnx : ∀ ty, (Instr.next (.pointer (some ⟨w.heap.size, 0, none⟩)) true ty).run Tryz.prog wr = _ := fun ty => Lib.run_next_end_at wr w.heap.size _ pos ty hit hps
      have HB := Lib.hid hb
      clear hit hb hps
      go_wp2_with fail
      go_ret
      exact ⟨rfl, HB.out⟩
theorem ib_none : ∀ {l : List UInt8} {c : UInt8}, (∀ x ∈ l, x ≠ c) → Lib.indexByte l c = -1
  | [], _, _ => rfl
  | b :: l, c, h => by
    have hb : (b == c) = false := by simpa using h b (by simp)
    have ih := ib_none (l := l) (c := c) (fun x hx => h x (by simp [hx]))
    rw [Lib.indexByte, hb, ih]
    rfl
theorem q_none (k : Nat) {c : UInt8} (hc : 128 ≤ c.toNat) : Lib.indexByte (qL.drop k) c = -1 := by
  have h : ∀ x ∈ qL.drop k, x ≠ c := fun x hx e => by
    have hm := List.mem_of_mem_drop hx
    have hall : ∀ x ∈ qL, x.toNat < 128 := by decide
    have := hall x hm
    rw [e] at this
    omega
  exact ib_none h
set_option maxHeartbeats 8000000 in
set_option maxRecDepth 100000 in
theorem irune_high (r : Int) (h1 : 128 ≤ r) (h2 : r ≤ 1114111) (hne : r ≠ 65533) (hv : Utf8.valid r = true) (hv2 : Lib.validRune r = true) (w : World) : Calls Tryz.prog 76 #[.string ⟨#[34, 92, 47, 8, 12, 10, 13, 9]⟩, .int .i32 r] w fun e w' => e = .returned (.int .i64 (-1)) ∧ Below w.heap.size w w' := by
  have hs : (⟨#[34, 92, 47, 8, 12, 10, 13, 9]⟩ : ByteArray).size = 8 := rfl
  obtain ⟨e1, e2, e3⟩ := encode_facts r hv h1
  have d0 : decide (0 ≤ r) = true := decide_eq_true (by omega)
  have d1 : decide (r < 128) = false := decide_eq_false (by omega)
  have d2 : (r == 65533) = false := by simpa using hne
  have HV := Lib.hid (fun W => Tryz.utf8_ValidRune r W)
  rw [hv2] at HV
  have HI := Lib.hid (fun (k : Nat) (c : UInt8) (hc : 128 ≤ c.toNat) W => by have := Tryz.strings_IndexByte ⟨(qL.drop k).toArray⟩ (c.toNat : Int) W; rw [show (⟨(qL.drop k).toArray⟩ : ByteArray).data.toList = qL.drop k by simp, show ((c.toNat : Int).toNat).toUInt8 = c by simp, q_none k hc] at this; exact this)
  have HSL := Lib.hid (fun (k : Nat) (hk : k ≤ 8) W => sub_from qL k hk W)
  have hcv : ∀ W : World, (convert 21 9 (.int .i32 r)).run Tryz.prog W = .ok (.string (Utf8.encode r)) W := fun W => run_convert_int_string W 21 9 .i32 r (by rw [Tryz.underlying21]; rfl) Tryz.underlying9
  generalize Utf8.encode r = E at *
  obtain ⟨n, hn⟩ : ∃ n : Nat, n = E.size - 1 := ⟨_, rfl⟩
  have hn3 : n = 1 ∨ n = 2 ∨ n = 3 := by omega
  have hnE : n < E.size := by omega
  have hsz : E.size = n + 1 := by omega
  have hcl : 128 ≤ (E[n]'hnE).toNat := by subst hn; exact e3 hnE
  have hn8 : n < (⟨#[34, 92, 47, 8, 12, 10, 13, 9]⟩ : ByteArray).size := by omega
  have hq := q_ascii (j := n) (by omega) hn8
  have hne2 : ((((⟨#[34, 92, 47, 8, 12, 10, 13, 9]⟩ : ByteArray)[n]'hn8).toNat : Int) != ((E[n]'hnE).toNat : Int)) = true := by
    simp only [bne_iff_ne, ne_eq]; omega
  have HC := Lib.hid (HI.out (n + 1) (E[n]'hnE) hcl)
  have hsl := HSL.out (n + 1) (by omega)
  have hsl2 : ∀ W : World, (Instr.slice 9 (.string ⟨#[34, 92, 47, 8, 12, 10, 13, 9]⟩) (some (.int .i64 ((n : Int) + 1))) none none).run Tryz.prog W = .ok (.string ⟨(qL.drop (n + 1)).toArray⟩) W := fun W => hsl W
  have q1 : IntKind.i64.wrap ((n : Int) + 1) = (n : Int) + 1 := IntWalk.i64_in _ (by omega)
  have q2 : IntKind.i64.wrap ((E.size : Int) - 1) = (n : Int) := by rw [IntWalk.i64_in _ (by omega)]; omega
  have hn8z : (n : Int) < 8 := by omega
  generalize hca : (⟨#[34, 92, 47, 8, 12, 10, 13, 9]⟩ : ByteArray)[n]'hn8 = ca at *
  generalize hce : E[n]'hnE = ce at *
  clear hsl HSL HI e1 e2 e3 hv hv2 hne hn
  generalize qL.drop (n + 1) = dr at *
  go_enter Tryz.func76, Tryz.ntmps76
  go_wp2_with fail
  refine (HV.out _).mono ?_
  rintro e w1 ⟨rfl, rfl⟩
  go_wp2_with fail
  go_step3
  go_wp2_with fail
  go_loopw [9] (fun i wr => i = .int .i64 n ∧ Below w1.heap.size w1 wr) (fun _ _ => 0)
  case atStart => exact ⟨rfl, Below.refl _ _⟩
  case round =>
    obtain ⟨rfl, hb⟩ := hrel
    have HB := Lib.hid hb
    clear hb
    go_wp2_with fail
    go_step3
    go_wp2_with fail
    go_quiet (fail)
    go_wp2_with fail
    go_region_held3 (fun _ => True) (trivial) ((go_at_call 77; refine (HC.out _).mono ?_; rintro e w7 ⟨rfl, rfl⟩))
    go_wp2_with fail
    rw [Exit.noGoto_ret]
    go_wp2_with fail
    rw [Exit.noGoto_ret]
    go_wp2_with fail
    go_ret
    exact ⟨rfl, by first | exact below_drew1 (below_drewN HB.out _) | exact below_drewN (below_drewN HB.out _) _ | exact below_drewN HB.out _ | exact HB.out⟩
end
end Go.Proofs.YtlblddeemkefkaaGreatDoor
