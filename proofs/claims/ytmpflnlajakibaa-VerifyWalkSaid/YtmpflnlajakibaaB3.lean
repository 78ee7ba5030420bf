/- The state of verify.looker against the plain model: what holds between the calls, and tell, step, target once more over it. The walk of verify.looker's key; the maps of the looker. -/
import Derived.Test.YtmpflnlajakibaaB5
import Derived.Test.YtmpflnlajakibaaA7
import Derived.Test.YtmpflnlajakibaaA6
import Derived.Test.YtmpflnlajakibaaWalk7
namespace Go.Proofs.Ytmpflnlajakibaa
set_option linter.unusedVariables false
set_option linter.unusedSimpArgs false
set_option linter.unusedSectionVars false
section
open Go.RowKit
open Go.ChangeMaps (setBlock)
/-- The heights map: data checked with its height, data open with -1. -/
def HF (F : Value → Option Value) (L : List (Lead × Int)) (O : List Lead) : Prop :=
  ∀ t a k, F (leadV t a k) = if (t, a, k) ∈ O then some (.int .i64 (-1)) else (vknown L (t, a, k)).map (Value.int .i64)
def CF (G : Value → Option Value) (C : List Int) : Prop := ∀ a, (G (.int .i64 a)).isSome = decide (a ∈ C)
structure VOk (w : World) (lk hm cm b o n cap : Nat) (D : List UInt8) (dp bud : Int) (S : VS) (O : List Lead) : Prop where
  st : ∃ at_ F G, St w lk hm cm b o n cap D dp (bud - S.s) S.s at_ 0 F G ∧ HF F S.L O ∧ CF G S.C
  s0 : 0 ≤ S.s
  s1 : S.s ≤ bud
  bd : bud ≤ 1073741824
  kn : KInv S.L
def VNo (w : World) (lk hm cm b o n cap : Nat) (D : List UInt8) (dp : Int) (s a e : Int) : Prop := e ≠ 0 ∧ ∃ left F G, St w lk hm cm b o n cap D dp left s a e F G
/-- The three blocks and the bytes lie below B. -/
structure Low (B lk hm cm b : Nat) : Prop where
  l : lk < B
  h : hm < B
  c : cm < B
  b : b < B
theorem Low.mono {B B' lk hm cm b : Nat} (h : Low B lk hm cm b) (k : B ≤ B') : Low B' lk hm cm b := ⟨Nat.lt_of_lt_of_le h.l k, Nat.lt_of_lt_of_le h.h k, Nat.lt_of_lt_of_le h.c k, Nat.lt_of_lt_of_le h.b k⟩
section
variable {w w' : World} {lk hm cm b o n cap : Nat} {D : List UInt8} {dp bud : Int} {S : VS} {O : List Lead}
theorem St.low {left steps at_ e : Int} {F G : Value → Option Value} (S : St w lk hm cm b o n cap D dp left steps at_ e F G) : Low w.heap.size lk hm cm b := ⟨S.lt, S.mh.lt, S.mc.lt, S.doc.lt⟩
theorem St.keep {left steps at_ e : Int} {F G : Value → Option Value} (S : St w lk hm cm b o n cap D dp left steps at_ e F G) {B : Nat} (hl : Low B lk hm cm b) (hk : ∀ i, i < B → w'.heap[i]? = w.heap[i]?) (hB : B ≤ w'.heap.size) :
    St w' lk hm cm b o n cap D dp left steps at_ e F G :=
  ⟨(hk _ hl.l).trans S.row, S.mh.same (hk _ hl.h), S.mc.same (hk _ hl.c), ⟨S.doc.len, S.doc.le, S.doc.max, S.doc.sm, fun i hi => by
    rw [World.cell?_of_block (w := w) (w' := w') (a := ⟨b, o + i, none⟩) (hk b hl.b)]; exact S.doc.at_ i hi, Nat.lt_of_lt_of_le hl.b hB⟩, S.n1, S.n2, S.n3, S.n4, S.n5, S.n6⟩
theorem VOk.low (h : VOk w lk hm cm b o n cap D dp bud S O) : Low w.heap.size lk hm cm b := by obtain ⟨_, _, _, h, _⟩ := h.st; exact h.low
theorem VNo.low {s a e : Int} (h : VNo w lk hm cm b o n cap D dp s a e) : Low w.heap.size lk hm cm b := by obtain ⟨_, _, _, _, h⟩ := h; exact h.low
theorem VOk.keep (h : VOk w lk hm cm b o n cap D dp bud S O) {B : Nat} (hl : Low B lk hm cm b) (hb : Below B w w') (hB : B ≤ w.heap.size) : VOk w' lk hm cm b o n cap D dp bud S O := by
  obtain ⟨a, F, G, h1, h2, h3⟩ := h.st
  exact ⟨⟨a, F, G, h1.keep hl (fun i hi => hb.block i hi) (Nat.le_trans hB hb.size), h2, h3⟩, h.s0, h.s1, h.bd, h.kn⟩
theorem VNo.keep {s a e : Int} (h : VNo w lk hm cm b o n cap D dp s a e) {B : Nat} (hl : Low B lk hm cm b) (hb : Below B w w') (hB : B ≤ w.heap.size) : VNo w' lk hm cm b o n cap D dp s a e := by
  obtain ⟨h0, l, F, G, h1⟩ := h
  exact ⟨h0, l, F, G, h1.keep hl (fun i hi => hb.block i hi) (Nat.le_trans hB hb.size)⟩
theorem VOk.doc (h : VOk w lk hm cm b o n cap D dp bud S O) : Doc w b o n cap D := by obtain ⟨_, _, _, h, _⟩ := h.st; exact h.doc
theorem VOk.c0 (h : VOk w lk hm cm b o n cap D dp bud S O) : w.cell? ⟨lk, 0, none⟩ = some (.slice (some ⟨b, o, none⟩) n cap) := by obtain ⟨_, _, _, h, _⟩ := h.st; exact cell_of_row _ _ _ _ _ _ h.row
theorem VOk.c1 (h : VOk w lk hm cm b o n cap D dp bud S O) : w.cell? ⟨lk, 1, none⟩ = some (.int .i64 dp) := by obtain ⟨_, _, _, h, _⟩ := h.st; exact cell_of_row _ _ _ _ _ _ h.row
theorem VOk.c4 (h : VOk w lk hm cm b o n cap D dp bud S O) : w.cell? ⟨lk, 4, none⟩ = some (.map (some hm)) := by obtain ⟨_, _, _, h, _⟩ := h.st; exact cell_of_row _ _ _ _ _ _ h.row
theorem VOk.c5 (h : VOk w lk hm cm b o n cap D dp bud S O) : w.cell? ⟨lk, 5, none⟩ = some (.map (some cm)) := by obtain ⟨_, _, _, h, _⟩ := h.st; exact cell_of_row _ _ _ _ _ _ h.row
theorem VNo.c4 {s a e : Int} (h : VNo w lk hm cm b o n cap D dp s a e) : w.cell? ⟨lk, 4, none⟩ = some (.map (some hm)) := by obtain ⟨_, _, _, _, h⟩ := h; exact cell_of_row _ _ _ _ _ _ h.row
/-- What the walk needs behind a call that changes the looker's blocks: own blocks read as before. -/
theorem tcell {lk hm cm b B : Nat} {W w1 : World} (h : Touch [lk, hm, cm] W w1) (hl : Low B lk hm cm b) :
    (∀ b o, B ≤ b → b < W.heap.size → w1.cell? ⟨b, o, none⟩ = W.cell? ⟨b, o, none⟩) ∧ (∀ b o, B ≤ b → b < W.heap.size → w1.frozen? ⟨b, o, none⟩ = W.frozen? ⟨b, o, none⟩) ∧ (∀ b, b < W.heap.size → b < w1.heap.size) := by
  have hk : ∀ x, B ≤ x → x < W.heap.size → w1.heap[x]? = W.heap[x]? := fun x h1 h2 => h.block x h2 (by
    have := hl.l; have := hl.h; have := hl.c
    simp only [List.mem_cons, List.not_mem_nil, or_false]; omega)
  exact ⟨fun x o h1 h2 => World.cell?_of_block (a := ⟨x, o, none⟩) (hk x h1 h2), fun x o h1 h2 => World.frozen?_of_block (a := ⟨x, o, none⟩) (hk x h1 h2), fun x hx => Nat.lt_of_lt_of_le hx h.size⟩
theorem touch3 {lk hm cm : Nat} {w w' : World} (h : Touch [lk] w w') : Touch [lk, hm, cm] w w' := h.mono (by simp)
end
section
variable {w : World} {lk hm cm b o n cap : Nat} {D : List UInt8} {dp bud : Int} {S : VS} {O : List Lead}
theorem vtell_ok (h : VOk w lk hm cm b o n cap D dp bud S O) (a : Int) :
    Calls Try.prog 45 #[.pointer (some ⟨lk, 0, none⟩), .int .i64 a, .int .i64 0] w fun en w' => en = .returned (.bool true) ∧ VOk w' lk hm cm b o n cap D dp bud S O ∧ Touch [lk, hm, cm] w w' := by
  obtain ⟨at_, F, G, h1, h2, h3⟩ := h.st
  refine (tell_any lk hm cm _ dp (bud - S.s) S.s at_ 0 a 0 w h1.row).mono ?_
  rintro en w1 ⟨rfl, hr, ht⟩
  exact ⟨by simp [tellE], ⟨⟨a, F, G, by simpa [tellE, tellA] using h1.told ht hr, h2, h3⟩, h.s0, h.s1, h.bd, h.kn⟩, touch3 ht⟩
theorem vtell_no (h : VOk w lk hm cm b o n cap D dp bud S O) (a e : Int) (he : e ≠ 0) :
    Calls Try.prog 45 #[.pointer (some ⟨lk, 0, none⟩), .int .i64 a, .int .i64 e] w fun en w' => en = .returned (.bool false) ∧ VNo w' lk hm cm b o n cap D dp S.s a e ∧ Touch [lk, hm, cm] w w' := by
  obtain ⟨at_, F, G, h1, h2, h3⟩ := h.st
  refine (tell_any lk hm cm _ dp (bud - S.s) S.s at_ 0 a e w h1.row).mono ?_
  rintro en w1 ⟨rfl, hr, ht⟩
  exact ⟨by simp [tellE, he], ⟨he, _, F, G, by simpa [tellE, tellA] using h1.told ht hr⟩, touch3 ht⟩
theorem vtell_still {s a' e : Int} (h : VNo w lk hm cm b o n cap D dp s a' e) (a x : Int) :
    Calls Try.prog 45 #[.pointer (some ⟨lk, 0, none⟩), .int .i64 a, .int .i64 x] w fun en w' => en = .returned (.bool false) ∧ VNo w' lk hm cm b o n cap D dp s a' e ∧ Touch [lk, hm, cm] w w' := by
  obtain ⟨he, l, F, G, h1⟩ := h
  refine (tell_any lk hm cm _ dp l s a' e a x w h1.row).mono ?_
  rintro en w1 ⟨rfl, hr, ht⟩
  exact ⟨by simp [tellE, he], ⟨he, l, F, G, by simpa [tellE, tellA, he] using h1.told ht hr⟩, touch3 ht⟩
theorem vstep_ok (h : VOk w lk hm cm b o n cap D dp bud S O) (m a : Int) (h0 : 0 ≤ m) (hm' : S.s + m ≤ bud) :
    Calls Try.prog 44 #[.pointer (some ⟨lk, 0, none⟩), .int .i64 m, .int .i64 a] w fun en w' => en = .returned (.bool true) ∧ VOk w' lk hm cm b o n cap D dp bud { S with s := S.s + m } O ∧ Touch [lk, hm, cm] w w' := by
  obtain ⟨at_, F, G, h1, h2, h3⟩ := h.st
  have := h.s0; have := h.s1; have := h.bd
  refine (step_ok lk hm cm _ dp (bud - S.s) S.s at_ m a w h1.row h0 (by omega) (by omega) (by omega) (by omega)).mono ?_
  rintro en w1 ⟨rfl, hr, ht⟩
  exact ⟨rfl, ⟨⟨at_, F, G, by simpa [Int.sub_sub] using h1.told ht hr, h2, h3⟩, by show 0 ≤ S.s + m; omega, hm', h.bd, h.kn⟩, touch3 ht⟩
theorem vstep_no (h : VOk w lk hm cm b o n cap D dp bud S O) (m a : Int) (hm' : ¬ S.s + m ≤ bud) :
    Calls Try.prog 44 #[.pointer (some ⟨lk, 0, none⟩), .int .i64 m, .int .i64 a] w fun en w' => en = .returned (.bool false) ∧ VNo w' lk hm cm b o n cap D dp S.s a 290 ∧ Touch [lk, hm, cm] w w' := by
  obtain ⟨at_, F, G, h1, h2, h3⟩ := h.st
  refine (step_no lk hm cm _ dp (bud - S.s) S.s at_ 0 m a w h1.row (.inr (by omega))).mono ?_
  rintro en w1 ⟨rfl, hr, ht⟩
  exact ⟨rfl, ⟨by omega, _, F, G, by simpa [tellE, tellA] using h1.told ht hr⟩, touch3 ht⟩
theorem vtgt_ok (h : VOk w lk hm cm b o n cap D dp bud S O) (p q t k lim : Int) (h1 : wideB q = true) (h2 : 0 ≤ p) (h3 : p + q ≤ n) (h4 : 1 ≤ k) (h5 : k ≤ 8) (h6 : tgtB D p q t k lim = true) :
    Calls Try.prog 47 #[.pointer (some ⟨lk, 0, none⟩), .agg #[.int .i64 p, .int .i64 q, .int .i64 t, .int .i64 k], .int .i64 lim] w fun en w' =>
      en = .returned (.tuple #[.int .i64 (p - loadV D p q), .bool true]) ∧ VOk w' lk hm cm b o n cap D dp bud S O ∧ Touch [lk, hm, cm] w w' := by
  obtain ⟨at_, F, G, g1, -, -⟩ := h.st
  refine (vtarget_ok w lk hm cm b o n cap D dp (bud - S.s) S.s at_ F G g1 p q t k lim h1 h2 h3 h4 h5 h6).mono ?_
  rintro en w1 ⟨rfl, hb⟩
  exact ⟨rfl, h.keep h.low hb (Nat.le_refl _), Touch.quiet hb⟩
theorem vtgt_no (h : VOk w lk hm cm b o n cap D dp bud S O) (p q t k lim : Int) (h1 : wideB q = true) (h2 : 0 ≤ p) (h3 : p + q ≤ n) (h4 : 1 ≤ k) (h5 : k ≤ 8) (h6 : ¬ tgtB D p q t k lim = true) :
    Calls Try.prog 47 #[.pointer (some ⟨lk, 0, none⟩), .agg #[.int .i64 p, .int .i64 q, .int .i64 t, .int .i64 k], .int .i64 lim] w fun en w' =>
      en = .returned (.tuple #[.int .i64 0, .bool false]) ∧ VNo w' lk hm cm b o n cap D dp S.s p 211 ∧ Touch [lk, hm, cm] w w' := by
  obtain ⟨at_, F, G, g1, -, -⟩ := h.st
  refine (vtarget_no w lk hm cm b o n cap D dp (bud - S.s) S.s at_ F G g1 p q t k lim h1 h2 h3 h4 h5 (by simpa using h6)).mono ?_
  rintro en w1 ⟨rfl, hs, ht⟩
  exact ⟨rfl, ⟨by omega, _, F, G, hs⟩, touch3 ht⟩
end
end
section
open Go.RowKit
open Go.ChangeMaps (setBlock)
section
variable {P : Program} {ops : Array Oper} {rest : List Oper} {o : Oper} {a : Act} {w : World} {Q : Exit → Act → World → Prop}
/-- A lookup whose run is known. -/
theorem lookup_to (hg : o.guard = none) (T : TypeId) (m x : Operand) (c : Bool) (ho : o.op = .lookup T m x c) (mv xv v : Value) (hm : a.eval m = mv) (hx : a.eval x = xv) (hr : (Instr.lookup T mv xv c).run P w = .ok v w)
    (h : wpList P ops Q rest (a.put o.dst v) w) : wpList P ops Q (o :: rest) a w :=
  wpList_plain hg fun _ hK => by
    unfold Oper.wp execOp
    simp only [ho, hm, hx, Sem.run_bind, Sem.run_pure, Result.andThen_ok, hr]
    exact hK _ _ h
/-- An update of a map whose run is known. -/
theorem mapUpdate_to (hg : o.guard = none) (T : TypeId) (m x y : Operand) (ho : o.op = .mapUpdate T m x y) (mv xv yv : Value) (w' : World) (hm : a.eval m = mv) (hx : a.eval x = xv) (hy : a.eval y = yv) (hr : (Instr.mapUpdate T mv xv yv).run P w = .ok () w')
    (h : wpList P ops Q rest (a.put o.dst undef) w') : wpList P ops Q (o :: rest) a w :=
  wpList_plain hg fun _ hK => by
    unfold Oper.wp execOp
    simp only [ho, hm, hx, hy, Sem.run_bind, Sem.run_pure, Result.andThen_ok, hr]
    exact hK _ _ h
end
theorem zero_int (w : World) : (zeroValue 3).run Try.prog w = .ok (.int .i64 0) w := by kernel_rfl
theorem wf64 {a : Int} (h : -4611686018427387904 ≤ a) (h' : a ≤ 4611686018427387904) : (Lit.int .i64 a).wf = true := by
  unfold Lit.wf
  have h1 : IntKind.i64.min = -9223372036854775808 := by decide
  have h2 : IntKind.i64.max = 9223372036854775807 := by decide
  simp only [h1, h2, Bool.and_eq_true, decide_eq_true_eq]; omega
theorem leadV_inj {t a k t' a' k' : Int} (h : leadV t a k = leadV t' a' k') : (t, a, k) = (t', a', k') := by
  unfold leadV at h
  simp only [Value.agg.injEq, Array.mk.injEq, List.cons.injEq, Value.int.injEq, true_and, and_true] at h
  rw [h.1, h.2.1, h.2.2]
section
variable {w : World} {lk hm cm b o n cap : Nat} {D : List UInt8} {dp bud : Int} {S : VS} {O : List Lead}
theorem St.setC {left steps at_ e : Int} {F G G' : Value → Option Value} {x : Obj} (S : St w lk hm cm b o n cap D dp left steps at_ e F G) (h : MapIs Try.prog 3 (setBlock w cm x) cm G') :
    St (setBlock w cm x) lk hm cm b o n cap D dp left steps at_ e F G' :=
  ⟨(heap_setBlock_other _ _ _ _ S.n2).trans S.row, S.mh.same (heap_setBlock_other _ _ _ _ S.n3), h, ⟨S.doc.len, S.doc.le, S.doc.max, S.doc.sm, fun i hi => by
    rw [World.cell?_of_block (w := w) (w' := setBlock w cm x) (a := ⟨b, o + i, none⟩) (heap_setBlock_other _ _ _ _ S.n6)]; exact S.doc.at_ i hi, by rw [size_setBlock]; exact S.doc.lt⟩, S.n1, S.n2, S.n3, S.n4, S.n5, S.n6⟩
theorem St.setH {left steps at_ e : Int} {F F' G : Value → Option Value} {x : Obj} (S : St w lk hm cm b o n cap D dp left steps at_ e F G) (h : MapIs Try.prog 100 (setBlock w hm x) hm F') :
    St (setBlock w hm x) lk hm cm b o n cap D dp left steps at_ e F' G :=
  ⟨(heap_setBlock_other _ _ _ _ S.n1).trans S.row, h, S.mc.same (heap_setBlock_other _ _ _ _ S.n3.symm), ⟨S.doc.len, S.doc.le, S.doc.max, S.doc.sm, fun i hi => by
    rw [World.cell?_of_block (w := w) (w' := setBlock w hm x) (a := ⟨b, o + i, none⟩) (heap_setBlock_other _ _ _ _ S.n5)]; exact S.doc.at_ i hi, by rw [size_setBlock]; exact S.doc.lt⟩, S.n1, S.n2, S.n3, S.n4, S.n5, S.n6⟩
theorem touch_set (w : World) {m : Nat} {T : List Nat} (hm : m ∈ T) (x : Obj) : Touch T w (setBlock w m x) := ((Tch.refl w.heap.size T w).setBlock hm x).touch
theorem VOk.lookC (h : VOk w lk hm cm b o n cap D dp bud S O) {a : Int} (hw : (Lit.int .i64 a).wf = true) :
    ∃ v, (Instr.lookup 62 (.map (some cm)) (.int .i64 a) true).run Try.prog w = .ok (.tuple #[v, .bool (decide (a ∈ S.C))]) w := by
  obtain ⟨at_, F, G, h1, h2, h3⟩ := h.st
  obtain ⟨kl, hk⟩ := intKey a hw
  refine ⟨(G (.int .i64 a)).getD (.int .i64 0), (h1.mc.look true intKeyed Try.underlying62 (zero_int w) hk).trans ?_⟩
  rw [if_pos rfl, h3 a]
theorem VOk.addC (h : VOk w lk hm cm b o n cap D dp bud S O) {a : Int} (x : Int) (hw : (Lit.int .i64 a).wf = true) :
    ∃ w2, (Instr.mapUpdate 62 (.map (some cm)) (.int .i64 a) (.int .i64 x)).run Try.prog w = .ok () w2 ∧ VOk w2 lk hm cm b o n cap D dp bud { S with C := a :: S.C } O ∧ Touch [lk, hm, cm] w w2 ∧
      (Instr.lookup 62 (.map (some cm)) (.int .i64 a) false).run Try.prog w2 = .ok (.int .i64 x) w2 ∧
      (Instr.lookup 62 (.map (some cm)) (.int .i64 a) false).run Try.prog w2.drew = .ok (.int .i64 x) w2.drew := by
  obtain ⟨at_, F, G, h1, h2, h3⟩ := h.st
  obtain ⟨kl, hk⟩ := intKey a hw
  obtain ⟨y, r1, r2⟩ := h1.mc.update intKeyed Try.underlying62 (val := .int .i64 x) hk
  refine ⟨_, r1, ⟨⟨at_, F, _, h1.setC r2, h2, fun c => ?_⟩, h.s0, h.s1, h.bd, h.kn⟩, touch_set _ (by simp) _, (r2.look false intKeyed Try.underlying62 (zero_int _) hk).trans ?_, ((r2.same (w' := (setBlock w cm y).drew) rfl).look false intKeyed Try.underlying62 (zero_int _) hk).trans ?_⟩
  · by_cases hc : c = a
    · subst hc; simp
    · have : ¬ (Value.int .i64 c = Value.int .i64 a) := by simpa using hc
      simp only [if_neg this]
      rw [h3 c]
      simp [hc]
  · simp
  · simp
theorem VOk.lookH (h : VOk w lk hm cm b o n cap D dp bud S O) {t a k : Int} (h1 : (Lit.int .i64 t).wf = true) (h2 : (Lit.int .i64 a).wf = true) (h3 : (Lit.int .i64 k).wf = true) (hO : (t, a, k) ∉ O) :
    (Instr.lookup 61 (.map (some hm)) (leadV t a k) true).run Try.prog w = .ok (.tuple #[.int .i64 ((vknown S.L (t, a, k)).getD 0), .bool (vknown S.L (t, a, k)).isSome]) w := by
  obtain ⟨at_, F, G, g1, g2, g3⟩ := h.st
  obtain ⟨kl, hk⟩ := leadKey t a k h1 h2 h3
  refine (g1.mh.look true leadKeyed Try.underlying61 (zero_int w) hk).trans ?_
  rw [if_pos rfl, g2 t a k, if_neg hO]
  cases vknown S.L (t, a, k) <;> rfl
theorem VOk.openH (h : VOk w lk hm cm b o n cap D dp bud S O) {t a k : Int} (h1 : (Lit.int .i64 t).wf = true) (h2 : (Lit.int .i64 a).wf = true) (h3 : (Lit.int .i64 k).wf = true) :
    ∃ w2, (Instr.mapUpdate 61 (.map (some hm)) (leadV t a k) (.int .i64 (-1))).run Try.prog w = .ok () w2 ∧ VOk w2 lk hm cm b o n cap D dp bud S ((t, a, k) :: O) ∧ Touch [lk, hm, cm] w w2 := by
  obtain ⟨at_, F, G, g1, g2, g3⟩ := h.st
  obtain ⟨kl, hk⟩ := leadKey t a k h1 h2 h3
  obtain ⟨y, r1, r2⟩ := g1.mh.update leadKeyed Try.underlying61 (val := .int .i64 (-1)) hk
  refine ⟨_, r1, ⟨⟨at_, _, G, g1.setH r2, fun t' a' k' => ?_, g3⟩, h.s0, h.s1, h.bd, h.kn⟩, touch_set _ (by simp) _⟩
  by_cases hc : leadV t' a' k' = leadV t a k
  · have := leadV_inj hc
    simp only [Prod.mk.injEq] at this
    obtain ⟨rfl, rfl, rfl⟩ := this
    simp
  · have hne : ¬ ((t', a', k') = (t, a, k)) := fun e => hc (by simp only [Prod.mk.injEq] at e; rw [e.1, e.2.1, e.2.2])
    simp only [if_neg hc]
    rw [g2 t' a' k']
    simp only [List.mem_cons, hne, false_or]
theorem VOk.addH {O' : List Lead} (h : VOk w lk hm cm b o n cap D dp bud S O') {t a k : Int} (x : Int) (h1 : (Lit.int .i64 t).wf = true) (h2 : (Lit.int .i64 a).wf = true) (h3 : (Lit.int .i64 k).wf = true)
    (hO : (t, a, k) ∉ O) (hO' : ∀ y, y ≠ (t, a, k) → (y ∈ O' ↔ y ∈ O)) (hx1 : 1 ≤ x) (hx2 : x ≤ beginsV t k a + 30) :
    ∃ w2, (Instr.mapUpdate 61 (.map (some hm)) (leadV t a k) (.int .i64 x)).run Try.prog w = .ok () w2 ∧ VOk w2 lk hm cm b o n cap D dp bud { S with L := ((t, a, k), x) :: S.L } O ∧ Touch [lk, hm, cm] w w2 := by
  obtain ⟨at_, F, G, g1, g2, g3⟩ := h.st
  obtain ⟨kl, hk⟩ := leadKey t a k h1 h2 h3
  obtain ⟨y, r1, r2⟩ := g1.mh.update leadKeyed Try.underlying61 (val := .int .i64 x) hk
  refine ⟨_, r1, ⟨⟨at_, _, G, g1.setH r2, fun t' a' k' => ?_, g3⟩, h.s0, h.s1, h.bd, h.kn.cons hx1 hx2⟩, touch_set _ (by simp) _⟩
  by_cases hc : leadV t' a' k' = leadV t a k
  · have := leadV_inj hc
    simp only [Prod.mk.injEq] at this
    obtain ⟨rfl, rfl, rfl⟩ := this
    simp only [if_pos rfl, if_neg hO, vknown_cons, if_true]; rfl
  · have hne : ¬ ((t', a', k') = (t, a, k)) := fun e => hc (by simp only [Prod.mk.injEq] at e; rw [e.1, e.2.1, e.2.2])
    have hne' : ¬ ((t, a, k) = (t', a', k')) := fun e => hne e.symm
    simp only [if_neg hc, vknown_cons, if_neg hne']
    rw [g2 t' a' k']
    by_cases hm' : (t', a', k') ∈ O
    · rw [if_pos hm', if_pos ((hO' _ hne).2 hm')]
    · rw [if_neg hm', if_neg (fun h => hm' ((hO' _ hne).1 h))]
theorem VNo.delH {s a0 e : Int} (h : VNo w lk hm cm b o n cap D dp s a0 e) {t a k : Int} (h1 : (Lit.int .i64 t).wf = true) (h2 : (Lit.int .i64 a).wf = true) (h3 : (Lit.int .i64 k).wf = true) (ty : TypeId) :
    ∃ w2, (Builtin.delete_ #[61, 100] ty #[.map (some hm), leadV t a k]).run Try.prog w = .ok (.tuple #[]) w2 ∧ VNo w2 lk hm cm b o n cap D dp s a0 e ∧ Touch [lk, hm, cm] w w2 := by
  obtain ⟨h0, l, F, G, g1⟩ := h
  obtain ⟨kl, hk⟩ := leadKey t a k h1 h2 h3
  obtain ⟨y, r1, r2⟩ := g1.mh.del leadKeyed Try.underlying61 hk ty
  exact ⟨_, r1, ⟨h0, l, _, G, g1.setH r2⟩, touch_set _ (by simp) _⟩
end
end
end Go.Proofs.Ytmpflnlajakibaa
