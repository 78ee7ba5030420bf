/- Steps of paths as they read; slices.Index at texts; path.leads: the child to which a step leads. Paths in memory of their own: slices of steps. -/
import Derived.Test.YtlblddeemkefkaaGreatDoorEa
import Derived.Test.YtlblddeemkefkaaGreatDoorLb
import Derived.Deep.RegionLaw
import Derived.OwnWalk
namespace Go.Proofs.YtlblddeemkefkaaGreatDoor
set_option linter.unusedVariables false
set_option linter.unusedSimpArgs false
section
section
open Go.RowKit
/-- A step: its key, its index, whether it goes by key. -/
abbrev PS := List UInt8 × Int × Bool
def stepC (s : PS) : List Value := [strV s.1, .int .i64 s.2.1, .bool s.2.2]
def StepRd (w : World) (v : Value) (p : List PS) : Prop := Rd w v 3 p.length (p.flatMap stepC)
theorem steps_len : ∀ p : List PS, (p.flatMap stepC).length = p.length * 3
  | [] => rfl
  | s :: r => by
    rw [List.flatMap_cons, List.length_append, steps_len r, List.length_cons]
    simp [stepC]
    omega
theorem steps_at : ∀ (p : List PS) (k j : Nat) (hk : k < p.length), j < 3 → (p.flatMap stepC)[k * 3 + j]? = (stepC p[k])[j]?
  | s :: r, 0, j, _, hj => by
    rw [List.flatMap_cons, List.getElem?_append_left (by simp [stepC]; omega)]
    simp
  | s :: r, k + 1, j, hk, hj => by
    rw [List.flatMap_cons, List.getElem?_append_right (by simp [stepC]; omega)]
    have := steps_at r k j (by simpa using hk) hj
    rw [show (k + 1) * 3 + j - (stepC s).length = k * 3 + j by simp [stepC]; omega, this]
    rfl
/-- A step of a path that reads. -/
theorem StepRd.at_ {w0 : World} {p : List PS} {A : Option Addr} {m c : Nat} (h : StepRd w0 (.slice A m c) p) {w : World} (hb : Below w0.heap.size w0 w) (k : Nat) (hk : k < p.length) :
    ∃ b o, A = some ⟨b, o, none⟩ ∧ b < w0.heap.size ∧ b < w.heap.size ∧ w.cell? ⟨b, o + k * 3, none⟩ = some (.string ⟨p[k].1.toArray⟩) ∧ w.cell? ⟨b, o + k * 3 + 1, none⟩ = some (.int .i64 p[k].2.1) ∧ w.cell? ⟨b, o + k * 3 + 2, none⟩ = some (.bool p[k].2.2) := by
  obtain ⟨b, o, rfl, hlt, hc⟩ := Rd.cells h (by omega)
  have at_ : ∀ j, j < 3 → ∀ v, (stepC p[k])[j]? = some v → w.cell? ⟨b, o + k * 3 + j, none⟩ = some v := by
    intro j hj v hv
    rw [hb.cell (p := ⟨b, o + k * 3 + j, none⟩) hlt, Nat.add_assoc, hc (k * 3 + j) (by omega), steps_at p k j hk hj]
    exact hv
  exact ⟨b, o, rfl, hlt, Nat.lt_of_lt_of_le hlt hb.size, at_ 0 (by omega) _ rfl, at_ 1 (by omega) _ rfl, at_ 2 (by omega) _ rfl⟩
/-- Where a key stands among others. -/
def idxK (ks : List (List UInt8)) (k : List UInt8) : Int := if k ∈ ks then (ks.idxOf k : Nat) else -1
theorem idx_here {ks : List (List UInt8)} {k : Nat} {x : List UInt8} (hk : k < ks.length) (hx : ks[k] = x) (hn : x ∉ ks.take k) : idxK ks x = k := by
  unfold idxK
  have hm : x ∈ ks := by rw [← hx]; exact List.getElem_mem hk
  rw [if_pos hm]
  have e : ks = ks.take k ++ x :: ks.drop (k + 1) := by
    rw [← hx, ← List.drop_eq_getElem_cons hk, List.take_append_drop]
  have : ks.idxOf x = k := by
    rw [show ks.idxOf x = (ks.take k ++ x :: ks.drop (k + 1)).idxOf x from congrArg (List.idxOf x) e]
    rw [List.idxOf_append, if_neg hn, List.idxOf_cons_self, List.length_take]
    omega
  rw [this]
theorem idx_bd (ks : List (List UInt8)) (k : List UInt8) : -1 ≤ idxK ks k ∧ idxK ks k < ks.length := by
  unfold idxK
  split
  · rename_i h
    have := List.idxOf_lt_length_iff.2 h
    omega
  · omega
set_option maxRecDepth 100000 in
set_option maxHeartbeats 4000000 in
theorem index_any (ks : List (List UInt8)) (A : Option Addr) (c : Nat) (key : List UInt8) (w : World) (h : Rd w (.slice A ks.length c) 1 ks.length (ks.map strV)) :
    Calls Tryz.prog 86 #[.slice A ks.length c, strV key] w fun e w' => e = .returned (.int .i64 (idxK ks key)) ∧ Below w.heap.size w w' := by
  have HR := Lib.hid h
  have hbd := h.bound
  obtain ⟨n, hn⟩ : ∃ n, n = ks.length := ⟨_, rfl⟩
  rw [← hn] at hbd ⊢
  have HN := Lib.hid hn
  clear h hn
  obtain ⟨r, hr⟩ : ∃ r, r = idxK ks key := ⟨_, rfl⟩
  rw [← hr]
  have HRR := Lib.hid hr
  clear hr
  unfold strV
  go_enter Tryz.func86, Tryz.ntmps86
  go_wp2_with fail
  go_loopw [8] (fun i wr => ∃ k : Nat, k ≤ n ∧ i = .int .i64 k ∧ Hid (key ∉ ks.take k) ∧ Below w.heap.size w wr) (fun i _ => n - (intOf i).toNat)
  case atStart => exact ⟨0, by omega, rfl, Lib.hid (by simp), Below.refl _ _⟩
  case round =>
    rename_i wr
    obtain ⟨k, hk, rfl, hF, hb⟩ := hrel
    by_cases h1 : k < n
    · have h1' : (k : Int) < (n : Int) := by omega
      have hkl : k < ks.length := by rw [← HN.out]; exact h1
      have hRd : Rd w (.slice A n c) 1 ks.length (ks.map strV) := by
        have := HR.out
        have e := HN.out
        rw [← e] at this ⊢
        exact this
      obtain ⟨b, o, rfl, hblt, hblr, hcell⟩ := hRd.text hb k hkl
      have HB := Lib.hid hb
      by_cases e1 : key = ks[k]
      · have hfin : r = k := by
          rw [HRR.out]
          exact idx_here hkl e1.symm hF.out
        have HFIN := Lib.hid hfin
        rw [← e1] at hcell
        clear hfin hRd hb e1 hkl
        go_wp2_with fail
        go_ret
        exact ⟨by rw [HFIN.out]; rfl, HB.out⟩
      · have HF2 := Lib.hid (show key ∉ ks.take (k + 1) by
          rw [List.take_succ_eq_append_getElem hkl, List.mem_append, List.mem_singleton]
          rintro (h | h)
          · exact hF.out h
          · exact e1 h)
        generalize ks[k] = x at *
        have e2 : ¬ (⟨key.toArray⟩ : ByteArray) = ⟨x.toArray⟩ := fun h => e1 (by injection h with h; simpa using h)
        have e3 : (key == x) = false := by simpa using e1
        have HE1 := Lib.hid e1
        clear e1 hRd hb hkl hF
        go_wp2_with fail
        go_roundw
        case rel => exact ⟨k + 1, by omega, by go_num, HF2, HB.out⟩
        case measure => simp only [intOf]; omega
    · have h1' : ¬ (k : Int) < (n : Int) := by omega
      have hfin : r = -1 := by
        rw [HRR.out]
        unfold idxK
        rw [if_neg]
        have := hF.out
        rwa [List.take_of_length_le (by rw [← HN.out]; omega)] at this
      have HFIN := Lib.hid hfin
      have HB := Lib.hid hb
      clear hfin hb hF
      go_wp2_with fail
      go_ret
      exact ⟨by rw [HFIN.out]; rfl, HB.out⟩
def kidsOf : DT → List DT
  | .mk _ _ _ _ _ l => l
/-- The index that a step means. -/
def leadsI : DT → PS → Int
  | .mk kd _ _ _ ks _, s => if s.2.2 then (if kd = 17 then idxK ks s.1 else -1) else s.2.1
/-- The child to which a step leads, or -1. -/
def leadsD (T : DT) (s : PS) : Int := if leadsI T s < 0 ∨ ((kidsOf T).length : Int) ≤ leadsI T s then -1 else leadsI T s
theorem leadsD_bd (T : DT) (s : PS) : leadsD T s = -1 ∨ (0 ≤ leadsD T s ∧ (leadsD T s).toNat < (kidsOf T).length) := by
  unfold leadsD
  split
  · exact .inl rfl
  · right; omega
end
end
section
open Go.RowKit
/-- A slice of steps in memory of its own, from B on. -/
def SRow (B : Nat) (w : World) (v : Value) (l : List PS) : Prop := w.ownsRow B 50 3 v l.length (l.flatMap stepC)
theorem SRow.nil (B : Nat) (w : World) : SRow B w (.slice none 0 0) [] := World.ownsRow_nil w B _ 3
theorem SRow.keep {B : Nat} {w w' : World} {v : Value} {l : List PS} (h : SRow B w v l) (hb : ∀ k, B ≤ k → k < w.heap.size → w'.heap[k]? = w.heap[k]?) : SRow B w' v l := by
  refine ⟨h.1, ?_⟩
  rcases h.2 with hn | ⟨g, c, cur, rfl, hg, hc, rest⟩
  · exact .inl hn
  · exact .inr ⟨g, c, cur, rfl, hg, (hb g hg (row_lt hc)).trans hc, rest⟩
theorem owns_up {w : World} {B : Nat} {e : TypeId} {sz n : Nat} {v : Value} {xs : List Value} (h : w.ownsRow 0 e sz v n xs) (hb : ∀ k, v.ownBlock = some k → B ≤ k) : w.ownsRow B e sz v n xs := by
  refine ⟨h.1, ?_⟩
  rcases h.2 with hn | ⟨g, c, cur, rfl, hg, rest⟩
  · exact .inl hn
  · exact .inr ⟨g, c, cur, rfl, hb g rfl, rest⟩
theorem SRow.step {B : Nat} {wn W1 w3 : World} {v v' : Value} {acc : List PS} {t : PS} (hT : SRow B wn v acc) (hBw : B ≤ wn.heap.size) (hW : Below wn.heap.size wn W1)
    (ho : w3.ownsRow 0 50 3 v' (acc.length + 1) (acc.flatMap stepC ++ stepC t)) (hg : W1.grownBy w3 v.ownBlock) (hwh : v'.ownBlock = v.ownBlock ∨ v'.ownBlock = some W1.heap.size) : SRow B w3 v' (acc ++ [t]) ∧ Below B wn w3 := by
  have hb3 : Below B W1 w3 := ⟨hg.os, hg.tape, hg.output, hg.size, fun k hk => hg.block k (Nat.lt_of_lt_of_le hk (Nat.le_trans hBw hW.size)) fun e => by have := hT.lt k e.symm; omega⟩
  refine ⟨?_, (hW.mono hBw).trans hb3⟩
  have e1 : (acc ++ [t]).flatMap stepC = acc.flatMap stepC ++ stepC t := by rw [List.flatMap_append]; simp
  unfold SRow
  rw [e1, List.length_append]
  refine owns_up ho fun k hk => ?_
  rcases hwh with h | h
  · rw [h] at hk; exact (hT.lt k hk).1
  · rw [h] at hk
    cases hk
    exact Nat.le_trans hBw hW.size
theorem info_parts3 {P : Program} {t : TypeId} {z : Value} {a b : Nat} (h : (P.info? t).map (fun i => (i.zero, i.size, i.bytes)) = some (some z, a, b)) : ∃ i, P.info? t = some i ∧ i.zero = some z ∧ i.size = a ∧ i.bytes = b := by
  cases hi : P.info? t with
  | none => rw [hi] at h; cases h
  | some i =>
    rw [hi] at h
    simp only [Option.map_some, Option.some.injEq, Prod.mk.injEq] at h
    exact ⟨i, rfl, h.1, h.2.1, h.2.2⟩
theorem step_one {s : ByteArray} {a : Int} {b : Bool} : ∀ v ∈ [Value.string s, .int .i64 a, .bool b], v.oneCell' = true := by
  intro v hv
  simp only [List.mem_cons, List.not_mem_nil, or_false] at hv
  rcases hv with rfl | rfl | rfl <;> rfl
theorem stepInfo : (Tryz.prog.info? 50).map (fun i => (i.zero, i.size, i.bytes)) = some (some (.agg #[.string ⟨#[]⟩, .int .i64 0, .bool false]), 3, 32) := by kernel_rfl
end
end Go.Proofs.YtlblddeemkefkaaGreatDoor
