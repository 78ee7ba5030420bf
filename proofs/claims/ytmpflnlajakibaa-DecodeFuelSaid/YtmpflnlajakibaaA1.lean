/- Plain definitions: types, widths, references (no program here). The walks of tag, width, le. Slices of bytes cut out: the run of the operation. -/
import Derived.WalkKit
import Derived.WalkLawsBesides
import Derived.WalkSpells
import Derived.Handy
import Derived.Lib.SlBytesRow
import Derived.Lib.Hide
import Derived.Laws.EntriesVeiled
import Derived.Deep.QuietTactic
import Derived.BigQuiet
import Derived.Deep.RegionWith
import Derived.Deep.DeepFit
import Derived.Deep.DeepMust
import Derived.Deep.DeepCutAuto
import Derived.Deep.LoopGhost
import Derived.Test.YtmpflnlajakibaaProg
namespace Go.Proofs.Ytmpflnlajakibaa
set_option linter.unusedVariables false
set_option linter.unusedSimpArgs false
section
open Go.RowKit

/-- What is below reads as before: the rules for the walk behind a call that makes memory. -/
theorem bcell {W w1 : World} (hb : Below W.heap.size W w1) : (∀ b o, b < W.heap.size → w1.cell? ⟨b, o, none⟩ = W.cell? ⟨b, o, none⟩) ∧ (∀ b o, b < W.heap.size → w1.frozen? ⟨b, o, none⟩ = W.frozen? ⟨b, o, none⟩) ∧ (∀ b, b < W.heap.size → b < w1.heap.size) :=
  ⟨fun b o h => hb.cell (p := ⟨b, o, none⟩) h, fun b o h => hb.frozen (p := ⟨b, o, none⟩) h, fun b h => Nat.lt_of_lt_of_le h hb.size⟩
theorem below_call {B : Nat} {w w0 w1 : World} (h : Below w0.heap.size w0 w1) (h0 : Below B w w0) (hB : B ≤ w0.heap.size) : Below B w w1 := h0.trans (h.mono hB)
theorem zb0 (B : Nat) (w : World) : Below B w w := Below.refl B w
theorem zb1 {B : Nat} {a w : World} (h : Below B a w) (hB : B ≤ w.heap.size) (o : Obj) : Below B a (w.alloc o) := h.alloc hB o
theorem zb2 {B : Nat} {a w : World} (h : Below B a w) : Below B a w.drew := h.drew
theorem zb3 {B : Nat} {a w : World} (h : Below B a w) (k : Nat) : Below B a (w.drewN k) := below_drewN h k
theorem zb4 {B : Nat} {a w : World} (h : Below B a w) {p : Addr} (hp : B ≤ p.block) (u : Value) : Below B a (w.setCell p u) := h.setCell hp u
theorem zb5 {B : Nat} {w w0 w1 : World} (h : Below w0.heap.size w0 w1) (h0 : Below B w w0) (hB : B ≤ w0.heap.size) : Below B w w1 := below_call h h0 hB
theorem zb6 (n : Nat) : n ≤ n := Nat.le_refl n
theorem zsz : (∀ (w : World) (o : Obj), (w.alloc o).heap.size = w.heap.size + 1) ∧ (∀ (w : World) (a : Addr) (v : Value), (w.setCell a v).heap.size = w.heap.size) ∧ (∀ w : World, w.drew.heap.size = w.heap.size) :=
  ⟨fun _ _ => by simp only [World.size_alloc], fun _ _ _ => by simp only [World.size_setCell], fun _ => by simp only [World.size_drew]⟩
theorem zdz : (∀ w : World, w.drew.heap.size = w.heap.size) ∧ (∀ (w : World) (a : Addr), w.drew.cell? a = w.cell? a) ∧ (∀ (w : World) (a : Addr), w.drew.frozen? a = w.frozen? a) :=
  ⟨fun _ => by simp only [World.size_drew], fun _ _ => by simp only [World.cell?_drew], fun _ _ => by simp only [World.frozen?_drew]⟩
/-- Any fact that the walk's bounds and frames close by themselves: its one hypothesis is proved at the place of use. -/
theorem zw {p : Prop} (h : p := by (repeat' first | (with_reducible first | exact zb0 _ _ | assumption | refine zb1 ?_ ?_ _ | refine zb2 ?_ | refine zb3 ?_ _ | refine zb4 ?_ ?_ _ | refine zb5 (by assumption) ?_ ?_ | exact zb6 _) | omega | (simp only [zsz]; omega) | (simp <;> omega))) : p := h
/-- The categories of the types: (category, element, number). -/
def kindsTab : List (Int × Int × Int) :=
  [(1,0,0),(1,0,0),(1,0,0),(0,0,0),(2,0,0),(2,0,0),(2,0,0),(2,0,0),(0,0,0),(2,0,0),(2,0,0),(3,1,0),(3,2,0),(0,0,0),(3,4,0),(0,0,0),(3,1,2),(3,2,2),(0,0,0),(3,1,3),(3,2,3),(0,0,0),(3,1,4),(3,2,4),(0,0,0),(2,0,0),(1,0,0),
   (0,0,0),(0,0,0),(0,0,0),(0,0,0),(0,0,0),(0,0,0),(0,0,0),(0,0,0),(0,0,0),(3,26,0)]
def kindOf (t : Int) : Int × Int × Int := if t < 0 then (0,0,0) else kindsTab.getD t.toNat (0,0,0)
def isOf (t : Int) : Int := (kindOf t).1
def legalB (t : Int) : Bool := isOf t != 0
def inlineB (t : Int) : Bool := isOf t == 1
def vecB (t : Int) : Bool := isOf t == 3
def elemOf (t : Int) : Int := (kindOf t).2.1
def manyOf (t : Int) : Int := (kindOf t).2.2
def wideB (n : Int) : Bool := n == 1 || n == 2 || n == 4 || n == 8

theorem wideB_cases {n : Int} (h : wideB n = true) : n = 1 ∨ n = 2 ∨ n = 4 ∨ n = 8 := by
  simp [wideB] at h; omega
theorem wideB_bd {n : Int} (h : wideB n = true) : 1 ≤ n ∧ n ≤ 8 := by
  have := wideB_cases h; omega
theorem kindOf_out {t : Int} (h : t < 0 ∨ 37 ≤ t) : kindOf t = (0, 0, 0) := by
  unfold kindOf
  rcases h with h | h
  · rw [if_pos h]
  · split
    · rfl
    · rw [List.getD_eq_getElem?_getD, List.getElem?_eq_none (by simp [kindsTab]; omega)]; rfl
theorem isOf_out {t : Int} (h : t < 0 ∨ 37 ≤ t) : isOf t = 0 := by rw [isOf, kindOf_out h]
theorem elemOf_out {t : Int} (h : t < 0 ∨ 37 ≤ t) : elemOf t = 0 := by rw [elemOf, kindOf_out h]
theorem manyOf_out {t : Int} (h : t < 0 ∨ 37 ≤ t) : manyOf t = 0 := by rw [manyOf, kindOf_out h]
theorem kindOf_in {t : Int} (h : legalB t = true) : 0 ≤ t ∧ t < 37 := by
  by_cases h' : t < 0 ∨ 37 ≤ t
  · simp [legalB, isOf, kindOf_out h'] at h
  · omega

/-- The little-endian number of some bytes. -/
def leVal : List UInt8 → Nat
  | [] => 0
  | c :: r => c.toNat + 256 * leVal r
theorem leVal_lt (l : List UInt8) : leVal l < 256 ^ l.length := by
  induction l with
  | nil => simp [leVal]
  | cons c r ih =>
    have := c.toNat_lt
    simp only [leVal, List.length_cons, Nat.pow_succ]
    omega
theorem leVal_snoc (l : List UInt8) (c : UInt8) : leVal (l ++ [c]) = leVal l + 256 ^ l.length * c.toNat := by
  induction l with
  | nil => simp [leVal]
  | cons d r ih =>
    simp only [List.cons_append, leVal, ih, List.length_cons, Nat.pow_succ, Nat.mul_add]
    rw [← Nat.mul_assoc, Nat.mul_comm 256 (256 ^ r.length), Nat.add_assoc]
theorem leVal_or (l : List UInt8) (c : UInt8) : leVal l ||| (c.toNat * 2 ^ (8 * l.length)) = leVal (l ++ [c]) := by
  have h := leVal_lt l
  rw [show (256 : Nat) = 2 ^ 8 from rfl, ← Nat.pow_mul] at h
  rw [leVal_snoc, show (256 : Nat) = 2 ^ 8 from rfl, ← Nat.pow_mul, Nat.or_comm, Nat.mul_comm c.toNat, ← Nat.two_pow_add_eq_or_of_lt h, Nat.add_comm]
theorem take_snoc {α : Type} (l : List α) (k : Nat) (h : k < l.length) : l.take (k + 1) = l.take k ++ [l[k]] :=
  List.take_succ_eq_append_getElem h
theorem leVal_step (l : List UInt8) (k : Nat) (h : k < l.length) (hk : k < 8) :
    bits BinOp.or IntKind.u64 (↑(leVal (l.take k))) (IntKind.u64.wrap (IntKind.u64.wrap ↑l[k].toNat * 2 ^ (8 * k))) = ↑(leVal (l.take (k + 1))) := by
  have e := leVal_or (l.take k) l[k]
  have hlen : (l.take k).length = k := by simp; omega
  rw [← take_snoc l k h, hlen] at e
  have h1 := leVal_lt (l.take k)
  rw [hlen, show (256 : Nat) = 2 ^ 8 from rfl, ← Nat.pow_mul] at h1
  have hp : 2 ^ (8 * k) ≤ 2 ^ 56 := Nat.pow_le_pow_right (by omega) (by omega)
  have hc := l[k].toNat_lt
  have h2 : l[k].toNat * 2 ^ (8 * k) < 18446744073709551616 := by
    have h3 : l[k].toNat * 2 ^ (8 * k) ≤ 255 * 2 ^ 56 := Nat.mul_le_mul (by omega) hp
    have h4 : 255 * 2 ^ 56 < 18446744073709551616 := by decide
    omega
  have w1 : IntKind.u64.wrap (↑l[k].toNat : Int) = ↑l[k].toNat := IntWalk.u64_in _ (by omega)
  have w2 : IntKind.u64.wrap (↑l[k].toNat * 2 ^ (8 * k) : Int) = ((l[k].toNat * 2 ^ (8 * k) : Nat) : Int) := by
    rw [show (↑l[k].toNat * 2 ^ (8 * k) : Int) = ((l[k].toNat * 2 ^ (8 * k) : Nat) : Int) from by push_cast; rfl]
    exact IntWalk.u64_in _ (by omega)
  rw [w1, w2, bits_or_u64_nat _ _ (by have : (2:Nat) ^ 56 < 18446744073709551616 := by decide
                                      omega) h2, e]
/-- A row of memory that reads as these bytes. -/
def BytesAt (w : World) (b o : Nat) (L : List UInt8) : Prop := ∀ i (h : i < L.length), w.cell? ⟨b, o + i, none⟩ = some (.int .u8 (L[i].toNat : Int))
/-- A slice of bytes in memory, not nil. -/
structure Doc (w : World) (b o n cap : Nat) (L : List UInt8) : Prop where
  len : L.length = n
  le : n ≤ cap
  max : cap ≤ maxLen
  sm : n ≤ 1073741824
  at_ : BytesAt w b o L
  lt : b < w.heap.size
theorem Doc.below {w w' : World} {b o n cap : Nat} {L : List UInt8} (D : Doc w b o n cap L) (h : Below w.heap.size w w') : Doc w' b o n cap L :=
  ⟨D.len, D.le, D.max, D.sm, fun i hi => by rw [h.cell (p := ⟨b, o + i, none⟩) D.lt]; exact D.at_ i hi, Nat.lt_of_lt_of_le D.lt h.size⟩
theorem Doc.bd {w : World} {b o n cap : Nat} {L : List UInt8} (D : Doc w b o n cap L) : n ≤ 1073741824 ∧ cap ≤ 9223372036854775807 := by
  have := D.max; have := D.sm; unfold maxLen at *; omega
theorem Doc.byte {w : World} {b o n cap : Nat} {L : List UInt8} (D : Doc w b o n cap L) (k : Nat) (h : k < n) : w.cell? ⟨b, o + k, none⟩ = some (.int .u8 ((L.getD k 0).toNat : Int)) := by
  have hk : k < L.length := by rw [D.len]; exact h
  rw [D.at_ k hk, List.getD_eq_getElem?_getD, List.getElem?_eq_getElem hk]; rfl
/-- Bytes [at, at + n) as a list. -/
def window (L : List UInt8) (at_ n : Nat) : List UInt8 := (L.drop at_).take n
theorem BytesAt.win {w : World} {b o : Nat} {L : List UInt8} (h : BytesAt w b o L) (a n : Nat) (hl : a + n ≤ L.length) : BytesAt w b (o + a) (window L a n) := by
  intro i hi
  have hi' : i < n := by simp only [window, List.length_take, List.length_drop] at hi; omega
  have := h (a + i) (by omega)
  rw [Nat.add_assoc, this]
  simp only [window, List.getElem_take, List.getElem_drop]
/-- le.Load: the number and the error. -/
def loadE (L : List UInt8) (a w : Int) : Int := if wideB w = false then 2 else if a < 0 ∨ (L.length : Int) - w < a then 6 else 0
def loadV (L : List UInt8) (a w : Int) : Int := if loadE L a w = 0 then leVal (window L a.toNat w.toNat) else 0
theorem window_length {L : List UInt8} {a n : Nat} (h : a + n ≤ L.length) : (window L a n).length = n := by simp [window]; omega
theorem loadV_nonneg (L : List UInt8) (a w : Int) : 0 ≤ loadV L a w := by unfold loadV; split <;> omega
theorem loadV_lt (L : List UInt8) (a w : Int) : loadV L a w < 18446744073709551616 := by
  unfold loadV
  split
  · rename_i h
    have hw : wideB w = true := by
      unfold loadE at h; split at h
      · omega
      · rename_i h'; simpa using h'
    have hb := wideB_bd hw
    have := leVal_lt (window L a.toNat w.toNat)
    have hl : (window L a.toNat w.toNat).length ≤ 8 := by simp [window]; omega
    have hp : 256 ^ (window L a.toNat w.toNat).length ≤ 256 ^ 8 := Nat.pow_le_pow_right (by omega) hl
    have h8 : (256 : Nat) ^ 8 = 18446744073709551616 := by decide
    omega
  · omega
/-- The offset of the first byte 0 at or after an offset, or the length. -/
def zeroAt (L : List UInt8) (a : Nat) : Nat := a + ((L.drop a).takeWhile (· != 0)).length
theorem zeroAt_le {L : List UInt8} {a : Nat} (h : a ≤ L.length) : zeroAt L a ≤ L.length := by
  have := (List.takeWhile_sublist (· != (0 : UInt8)) (l := L.drop a)).length_le
  simp only [List.length_drop] at this
  unfold zeroAt; omega
theorem zeroAt_ge (L : List UInt8) (a : Nat) : a ≤ zeroAt L a := by unfold zeroAt; omega
theorem zeroAt_hit {L : List UInt8} {a : Nat} (h : a < L.length) (h0 : L[a] = 0) : zeroAt L a = a := by
  unfold zeroAt
  rw [List.drop_eq_getElem_cons h, List.takeWhile_cons]
  simp [h0]
theorem zeroAt_step {L : List UInt8} {a : Nat} (h : a < L.length) (h0 : L[a] ≠ 0) : zeroAt L a = zeroAt L (a + 1) := by
  unfold zeroAt
  rw [List.drop_eq_getElem_cons h, List.takeWhile_cons]
  simp [h0]; omega
theorem zeroAt_end {L : List UInt8} {a : Nat} (h : L.length ≤ a) : zeroAt L a = a := by
  unfold zeroAt; rw [List.drop_eq_nil_of_le h]; simp
/-- Bytes [at, at + k) as a slice of exactly that capacity. -/
def cutV (b o l k : Nat) : Value := if k = 0 then .slice (some ⟨b, o, none⟩) 0 0 else .slice (some ⟨b, o + l, none⟩) k k
end
section
open Go.RowKit
/-- A struct literal or an array literal whose cells are known. -/
theorem build_to {P : Program} {ops : Array Oper} {rest : List Oper} {o : Oper} {a : Act} {w : World} {Q : Exit → Act → World → Prop} (hg : o.guard = none) (t : TypeId) (parts : Array (Nat × Operand)) (ho : o.op = .build t parts)
    (cells : Array Value) (hf : P.built t (parts.map fun (i, x) => (i, a.eval x)).toList = some cells)
    (h : wpList P ops Q rest (a.put o.dst (.agg cells)) w) : wpList P ops Q (o :: rest) a w := by
  refine wpList_build hg t parts ho (by rw [hf]; rfl) ?_
  rw [hf]; exact h
theorem _root_.Go.RowKit.Below.setRow {B : Nat} {a w : World} (h : Below B a w) {g : Nat} (hg : B ≤ g) (cs : Array Value) : Below B a (w.setRow g cs) :=
  h.trans ⟨rfl, rfl, rfl, by simp [World.setRow], fun k hk => setRow_other _ _ _ _ (by omega)⟩
def kindsCells : Array Value := (kindsTab.flatMap fun (a, b, c) => [Value.int .i64 a, .int .i64 b, .int .i64 c]).toArray
set_option maxRecDepth 100000 in
set_option maxHeartbeats 1000000 in
theorem kinds_any (w : World) : Calls Try.prog 107 #[] w fun e w' => e = .returned (.agg kindsCells) ∧ Below w.heap.size w w' := by
  go_enter Try.func107, Try.ntmps107
  go_wp2_with (first | (refine build_to rfl 141 _ rfl kindsCells (by as_aux_lemma => kernel_rfl) ?_) | (refine wpList_store_row rfl 141 (.tmp 0) (.tmp 22) rfl w.heap.size kindsCells rfl rfl 141 _ (heap_alloc_new _ _) (by as_aux_lemma => kernel_rfl) (by as_aux_lemma => kernel_rfl) (by as_aux_lemma => kernel_rfl) ?_))
  refine bodyPost_ret (results_cell_row rfl _ _ w.heap.size 141 kindsCells (0, 0) _ rfl (setRow_heap _ _ _ _ _ _ (heap_alloc_new _ _)) Try.underlying141 rfl (by as_aux_lemma => kernel_rfl)) rfl ⟨rfl, ?_⟩
  exact ((Below.refl _ _).alloc (Nat.le_refl _) _).setRow (Nat.le_refl _) _
end
section
open Go.RowKit
theorem size_u8 (w : World) : (sizeOf (Try.prog.elem 22)).run Try.prog w = .ok 1 w := by kernel_rfl
theorem und_bytes : Try.prog.underlying 22 = some (.slice (Try.prog.elem 22)) := by kernel_rfl
theorem slice_run (b o n cap : Nat) (l h : Int) (l' h' : Nat) (el : l = l') (eh : h = h') (h1 : l' ≤ h') (h2 : h' ≤ cap) (w : World) :
    (Instr.slice 22 (.slice (some ⟨b, o, none⟩) n cap) (some (.int .i64 l)) (some (.int .i64 h)) none).run Try.prog w
      = .ok (.slice (some (if cap = l' then ⟨b, o, none⟩ else ⟨b, o + l', none⟩)) (h' - l') (cap - l')) w := by
  subst el eh
  rw [run_slice_lh w 22 _ n cap und_bytes .i64 .i64 _ _ (by omega) (by omega) (by omega), size_u8]
  simp only [Result.andThen_ok, sliced, Int.toNat_natCast]
  split
  · rfl
  · simp only [Option.map_some, Nat.mul_one]
    congr 2
    by_cases h0 : l' = 0
    · subst h0; simp [Addr.add]
    · simp [Addr.add, h0]
theorem info_u8 : (Try.prog.info? 5).map (fun i => (i.zero, i.size, i.bytes)) = some (some (.int .u8 0), 1, 1) := by kernel_rfl
end
end Go.Proofs.Ytmpflnlajakibaa
