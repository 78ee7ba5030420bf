/- The reference's check: its methods over a state that is good or failed. -/
import Derived.Test.YtmpflnlajakibaaChk4
import Derived.Test.YtmpflnlajakibaaLess
import Derived.Test.YtmpflnlajakibaaB1
namespace Go.Proofs.Ytmpflnlajakibaa
set_option linter.unusedVariables false
set_option linter.unusedSimpArgs false
set_option linter.unusedSectionVars false
open Go.RowKit
theorem zr0 (K : Nat → Prop) (w : World) : RKept K w w := RKept.refl K w
theorem zr1 {K : Nat → Prop} {a W : World} {B : Nat} (hK : ∀ i, K i → i < B) (h : RKept K a W) (hB : B ≤ W.heap.size) (o : Obj) : RKept K a (W.alloc o) := RKept.alloc hK h hB o
theorem zr2 {K : Nat → Prop} {a W : World} (h : RKept K a W) : RKept K a W.drew := h.drew
theorem zr3 {K : Nat → Prop} {a W : World} {B : Nat} (hK : ∀ i, K i → i < B) (h : RKept K a W) (k : Nat) : RKept K a (W.drewN k) := RKept.drewN hK h k
theorem zr4 {K : Nat → Prop} {a W : World} {B : Nat} (hK : ∀ i, K i → i < B) (h : RKept K a W) {p : Addr} (hp : B ≤ p.block) (u : Value) : RKept K a (W.setCell p u) := RKept.setCell hK h hp u
theorem zr5 {K : Nat → Prop} {a W w1 : World} (h : RKept K W w1) (h0 : RKept K a W) : RKept K a w1 := rkept_same h h0
theorem zr6 {K K' : Nat → Prop} {a W w1 : World} (h : RKept (fun i => K i ∨ K' i) W w1) (h0 : RKept K a W) : RKept K a w1 := rkept_call h h0
theorem zr7 {K : Nat → Prop} {a W w1 : World} {B : Nat} (hK : ∀ i, K i → i < B) (h : Below W.heap.size W w1) (h0 : RKept K a W) (hB : B ≤ W.heap.size) : RKept K a w1 := rkept_below hK h h0 hB
abbrev CL (W : World) (X : Nat) (p q t k : Int) : Prop := W.cell? ⟨X, 0, none⟩ = some (.int .i64 p) ∧ W.cell? ⟨X, 1, none⟩ = some (.int .i64 q) ∧ W.cell? ⟨X, 2, none⟩ = some (.int .i64 t) ∧ W.cell? ⟨X, 3, none⟩ = some (.int .i64 k)
abbrev RX := Except (Int × Int × Int) VS
def RV (K : Nat → Prop) (w : World) (lk b o n cap : Nat) (D : List UInt8) (dp bud : Int) (r : RX) : Prop := match r with
  | .ok S => ROk K w lk b o n cap D dp bud S
  | .error (s, a, e) => RNo K w lk b o n cap D dp s a e
def eOf (r : RX) : Int := match r with
  | .ok _ => 0
  | .error (_, _, e) => e
def stepU (bud m a : Int) (r : RX) : RX := match r with
  | .ok S => if S.s + m ≤ bud then .ok { S with s := S.s + m } else .error (S.s, a, 290)
  | .error x => .error x
def tgtU (D : List UInt8) (p q t k lim : Int) (r : RX) : RX := match r with
  | .ok S => if tgtB D p q t k lim then .ok S else .error (S.s, p, 211)
  | .error x => .error x
def keyU (D : List UInt8) (bud p q k a : Int) (r : RX) : RX := match r with
  | .ok S => match keyM D bud p q k a S with | .ok (S', _) => .ok S' | .error x => .error x
  | .error x => .error x
def tellU (a e : Int) (r : RX) : RX := match r with
  | .ok S => .error (S.s, a, e)
  | .error x => .error x
section
variable {K K' : Nat → Prop} {w w' W : World} {lk b o n cap : Nat} {D : List UInt8} {dp bud : Int} {r : RX}
theorem RV.hK (h : RV K w lk b o n cap D dp bud r) : ∀ i, K i → i < w.heap.size := by
  rcases r with ⟨s, a, e⟩ | S
  · exact RNo.hK h
  · exact ROk.hK h
theorem RV.lkt (h : RV K w lk b o n cap D dp bud r) : lk < w.heap.size := by
  rcases r with ⟨s, a, e⟩ | S
  · exact RNo.lkt h
  · exact ROk.lkt h
theorem RV.kb (h : RV K w lk b o n cap D dp bud r) : K b := by
  rcases r with ⟨s, a, e⟩ | S
  · exact RNo.kb h
  · exact ROk.kb h
theorem RV.doc (h : RV K w lk b o n cap D dp bud r) : Doc w b o n cap D := by
  rcases r with ⟨s, a, e⟩ | S
  · exact RNo.doc h
  · exact ROk.doc h
theorem RV.c0 (h : RV K w lk b o n cap D dp bud r) : w.cell? ⟨lk, 0, none⟩ = some (.slice (some ⟨b, o, none⟩) n cap) := by
  rcases r with ⟨s, a, e⟩ | S
  · exact RNo.c0 h
  · exact ROk.c0 h
theorem RV.c1 (h : RV K w lk b o n cap D dp bud r) : w.cell? ⟨lk, 1, none⟩ = some (.int .i64 dp) := by
  rcases r with ⟨s, a, e⟩ | S
  · exact RNo.c1 h
  · exact ROk.c1 h
theorem RV.c7 (h : RV K w lk b o n cap D dp bud r) : w.cell? ⟨lk, 7, none⟩ = some (.int .i64 (eOf r)) := by
  rcases r with ⟨s, a, e⟩ | S
  · exact RNo.c7 h
  · exact ROk.c7 h
theorem RV.keep (h : RV K w lk b o n cap D dp bud r) (hb : Below w.heap.size w W) : RV K W lk b o n cap D dp bud r := by
  rcases r with ⟨s, a, e⟩ | S
  · exact RNo.keep h hb
  · exact ROk.keep h hb
theorem RV.enter (h : RV K w lk b o n cap D dp bud r) (hb : Below w.heap.size w W) (hK : ∀ i, K' i → w.heap.size ≤ i ∧ i < W.heap.size) : RV (fun i => K i ∨ K' i) W lk b o n cap D dp bud r := by
  rcases r with ⟨s, a, e⟩ | S
  · exact RNo.enter h hb hK
  · exact ROk.enter h hb hK
theorem RV.less (h : RV (fun i => K i ∨ K' i) w lk b o n cap D dp bud r) (hkb : K b) : RV K w lk b o n cap D dp bud r := by
  rcases r with ⟨s, a, e⟩ | S
  · exact RNo.less h hkb
  · exact ROk.less h hkb
theorem RV.e0 (h : RV K w lk b o n cap D dp bud r) : eOf r = 0 ↔ ∃ S, r = .ok S := by
  rcases r with ⟨s, a, e⟩ | S
  · have := h.1
    constructor
    · intro h0; exact absurd h0 this
    · rintro ⟨S, hS⟩; cases hS
  · exact ⟨fun _ => ⟨S, rfl⟩, fun _ => rfl⟩
theorem usteps (h : RV K w lk b o n cap D dp bud r) (m a : Int) (hm : 0 ≤ m) :
    Calls Try.prog 51 #[.pointer (some ⟨lk, 0, none⟩), .int .i64 m, .int .i64 a] w fun en w' => en = .returned (.tuple #[]) ∧ RV K w' lk b o n cap D dp bud (stepU bud m a r) ∧ RKept K w w' := by
  rcases r with ⟨s, a', e'⟩ | S
  · exact rsteps_still h m a
  · by_cases hx : S.s + m ≤ bud
    · rw [show stepU bud m a (.ok S) = .ok { S with s := S.s + m } from if_pos hx]
      exact rsteps_ok h m a hm hx
    · rw [show stepU bud m a (.ok S) = .error (S.s, a, 290) from if_neg hx]
      exact rsteps_no h m a hx
theorem utarget (h : RV K w lk b o n cap D dp bud r) (p q t k lim : Int) (hm : mayE n p q t k = 0) (hi : refB t = true) :
    Calls Try.prog 54 #[.pointer (some ⟨lk, 0, none⟩), .agg #[.int .i64 p, .int .i64 q, .int .i64 t, .int .i64 k], .int .i64 lim] w fun en w' =>
      (∃ x, en = .returned (.int .i64 x) ∧ (eOf (tgtU D p q t k lim r) = 0 → x = p - loadV D p q)) ∧ RV K w' lk b o n cap D dp bud (tgtU D p q t k lim r) ∧ RKept K w w' := by
  rcases r with ⟨s, a', e'⟩ | S
  · refine (rtgtStill h p q t k lim hm hi).mono ?_
    rintro en w1 ⟨⟨x, rfl⟩, h1, h2⟩
    exact ⟨⟨x, rfl, fun h0 => absurd h0 h.1⟩, h1, h2⟩
  · by_cases hx : tgtB D p q t k lim = true
    · rw [show tgtU D p q t k lim (.ok S) = .ok S from if_pos hx]
      refine (rtgtOk h p q t k lim hm hi hx).mono ?_
      rintro en w1 ⟨rfl, h1, h2⟩
      exact ⟨⟨_, rfl, fun _ => rfl⟩, h1, h2⟩
    · rw [show tgtU D p q t k lim (.ok S) = .error (S.s, p, 211) from if_neg hx]
      refine (rtgtNo h p q t k lim hm hi hx).mono ?_
      rintro en w1 ⟨rfl, h1, h2⟩
      exact ⟨⟨_, rfl, fun h0 => absurd h0 (by simp [eOf])⟩, h1, h2⟩
theorem keyM_val {D : List UInt8} {bud p q k a : Int} {S S' : VS} {s : List UInt8} (h : keyM D bud p q k a S = .ok (S', s)) : s = findS D p q 4 k true := by
  unfold keyM at h
  split at h
  · cases h
  · split at h
    · cases h; rfl
    · split at h
      · cases h
      · cases h; rfl
theorem ukey (h : RV K w lk b o n cap D dp bud r) (p q k a : Int) :
    Calls Try.prog 57 #[.pointer (some ⟨lk, 0, none⟩), .agg #[.int .i64 p, .int .i64 q, .int .i64 4, .int .i64 k], .int .i64 a] w fun en w' =>
      (∃ l, en = .returned (strV l) ∧ l.length ≤ 1073741824 ∧ (eOf (keyU D bud p q k a r) = 0 → l = findS D p q 4 k true)) ∧ RV K w' lk b o n cap D dp bud (keyU D bud p q k a r) ∧ RKept K w w' := by
  have hD := h.doc
  have hl0 : (findS D p q 4 k true).length ≤ 1073741824 := Nat.le_trans (findS_le D p q 4 k true) (by rw [hD.len]; exact hD.sm)
  rcases r with ⟨s, a', e'⟩ | S
  · refine (rkey_still h p q 4 k a).mono ?_
    rintro en w1 ⟨⟨l, rfl, hll⟩, h1, h2⟩
    exact ⟨⟨l, rfl, hll, fun h0 => absurd h0 h.1⟩, h1, h2⟩
  · by_cases he : findE D p q 4 k true = 0
    · have hx := rkey_b h p q k a he _ rfl
      cases hk : keyM D bud p q k a S with
      | ok y =>
        obtain ⟨S', s⟩ := y
        rw [hk] at hx
        rw [show keyU D bud p q k a (.ok S) = .ok S' by simp only [keyU, hk]]
        refine hx.mono ?_
        rintro en w1 ⟨rfl, h1, h2⟩
        exact ⟨⟨_, rfl, by rw [keyM_val hk]; exact hl0, fun _ => keyM_val hk⟩, h1, h2⟩
      | error y =>
        obtain ⟨s', a', e'⟩ := y
        rw [hk] at hx
        rw [show keyU D bud p q k a (.ok S) = .error (s', a', e') by simp only [keyU, hk]]
        refine hx.mono ?_
        rintro en w1 ⟨⟨l, rfl, hll⟩, h1, h2⟩
        exact ⟨⟨l, rfl, hll, fun h0 => absurd h0 h1.1⟩, h1, h2⟩
    · have hk : keyM D bud p q k a S = .error (S.s, a, findE D p q 4 k true) := by unfold keyM; rw [if_pos he]
      have hx := rkey_a h p q k a he
      rw [show keyU D bud p q k a (.ok S) = .error (S.s, a, findE D p q 4 k true) by simp only [keyU, hk]]
      refine hx.mono ?_
      rintro en w1 ⟨⟨l, rfl, hll⟩, h1, h2⟩
      exact ⟨⟨l, rfl, hll, fun h0 => absurd h0 he⟩, h1, h2⟩
/-- known, while no failure is recorded. -/
theorem uknown {S : VS} (h : ROk K w lk b o n cap D dp bud S) (hl : (S.L.length : Int) ≤ 4294967296) (t a k : Int) :
    Calls Try.prog 55 #[.pointer (some ⟨lk, 0, none⟩), .int .i64 t, .int .i64 a, .int .i64 k] w fun en w' => en = .returned (.int .i64 ((vknown S.L (t, a, k)).getD 0)) ∧ w = w' := by
  obtain ⟨at_, lv, cv, hst⟩ := h.st
  have hx := rknown_any hst (by rw [List.length_reverse]; exact hl) t a k
  rw [show firstH S.L.reverse (t, a, k) = (vknown S.L (t, a, k)).getD 0 by rw [firstH, vknown_reverse h.nd]] at hx
  exact hx
end
def toX {α : Type} (r : VR α) : RX := match r with
  | .ok (S, _) => .ok S
  | .error x => .error x
theorem kwOf_wide {D : List UInt8} {k f : Int} (h : wideB (kwOf D k f) = true) : kwOf D k f = loadV D (f + k) k ∧ loadV D (f + k) k ≤ 8 := by
  have hb := wideB_bd h
  unfold kwOf at *
  omega
theorem knownInfo : (Try.prog.info? 108).map (fun i => (i.zero, i.size, i.bytes)) = some (some (.agg #[.int .i64 0, .int .i64 0, .int .i64 0, .int .i64 0]), 4, 32) := by kernel_rfl
theorem row_cells29 {w : World} {g : Nat} {cs : Array Value} {e : TypeId} {fr : Nat × Nat} (h : w.heap[g]? = some (.cells cs e fr)) : ∀ j x, cs.toList[j]? = some x → w.cell? ((⟨g, 0, none⟩ : Addr).add j) = some x := by
  intro j x hj
  have := cell_of_row w g (0 + j) cs e fr h
  rw [show ((⟨g, 0, none⟩ : Addr).add j) = ⟨g, 0 + j, none⟩ by simp only [Addr.add]; split <;> simp_all, this, Nat.zero_add, ← Array.getElem?_toList]
  exact hj
theorem four_one (a b c d : Int) : ∀ u ∈ [Value.int .i64 a, .int .i64 b, .int .i64 c, .int .i64 d], u.oneCell' = true := by
  intro u hu
  simp only [List.mem_cons, List.not_mem_nil, or_false] at hu
  rcases hu with rfl | rfl | rfl | rfl <;> rfl
end Go.Proofs.Ytmpflnlajakibaa
