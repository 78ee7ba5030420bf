/- The walks of text.text, Key, Place. -/
import Derived.Test.YtmpflnlajakibaaWalk6
namespace Go.Proofs.Ytmpflnlajakibaa
set_option linter.unusedVariables false
set_option linter.unusedSimpArgs false
open Go.RowKit
/-- A conversion whose result is known. -/
theorem conv_to {P : Program} {ops : Array Oper} {rest : List Oper} {o : Oper} {a : Act} {w : World} {Q : Exit → Act → World → Prop} (hg : o.guard = none) (src dst : TypeId) (x : Operand) (ho : o.op = .convert src dst x)
    (v u : Value) (hx : a.eval x = v) (hr : (convert src dst v).run P w = .ok u w)
    (h : wpList P ops Q rest (a.put o.dst u) w) : wpList P ops Q (o :: rest) a w :=
  wpList_plain hg fun _ hK => by
    unfold Oper.wp execOp
    simp only [ho, hx, Sem.run_bind, Sem.run_pure, Result.andThen_ok, hr]
    exact hK _ _ h
/-- A string of some bytes. -/
def strV (l : List UInt8) : Value := .string ⟨l.toArray⟩
theorem conv_cut (b o n cap : Nat) (L : List UInt8) (w : World) (D : Doc w b o n cap L) (a k : Nat) (h : a + k ≤ n) :
    (convert 22 9 (cutV b o a k)).run Try.prog w = .ok (strV (window L a k)) w := by
  have hl : (window L a k).length = k := window_length (by rw [D.len]; exact h)
  have hW := D.at_.win a k (by rw [D.len]; exact h)
  have key : ∀ (x c : Nat), BytesAt w b x (window L a k) → (convert 22 9 (.slice (some ⟨b, x, none⟩) k c)).run Try.prog w = .ok (strV (window L a k)) w := by
    intro x c hx
    have hlen : ((window L a k).map fun (y : UInt8) => (y.toNat : Int)).length = k := by simp [hl]
    rw [run_convert_bytes_arg w 22 5 Try.underlying22 Try.underlying5 b x k c _ hlen (fun i hi => by
      rw [hx i (by omega), List.getD_eq_getElem?_getD, List.getElem?_eq_getElem (by omega)]; simp) 9 Try.underlying9]
    congr 2
    simp only [strOfNums]
    congr 2
    rw [List.map_map]
    conv => rhs; rw [← List.map_id (window L a k)]
    apply List.map_congr_left
    intro y _
    simp
  unfold cutV
  split
  · rename_i h0
    subst h0
    exact key o 0 (fun i hi => by omega)
  · exact key (o + a) k hW
theorem conv_none (w : World) : (convert 22 9 (.slice none 0 0)).run Try.prog w = .ok (strV []) w :=
  run_convert_bytes_nil w 22 5 Try.underlying22 Try.underlying5 0 0 9 Try.underlying9
/-- The contents that text.find finds. -/
def findS (L : List UInt8) (p q t k : Int) (mem : Bool) : List UInt8 :=
  if findE L p q t k mem = 0 then window L (targetV L p q t k).toNat (findN L p q t k) else []
theorem keyE_zero {L : List UInt8} {a : Nat} (h : keyE L a = 0) : zeroAt L a < L.length := by
  unfold keyE at h; split at h
  · assumption
  · omega
theorem cntE_zero {L : List UInt8} {a k z : Nat} (h : cntE L a k z = 0) : a + cntN L a k + z ≤ L.length := by
  unfold cntE at h; split at h
  · omega
  · split at h
    · omega
    · split at h
      · omega
      · rename_i h3; omega
theorem findE_zero {L : List UInt8} {p q t k : Int} {mem : Bool} (h : findE L p q t k mem = 0) :
    targetE L p q t k = 0 ∧ (targetV L p q t k).toNat + findN L p q t k ≤ L.length ∧ mem = true := by
  unfold findE at h
  split at h
  · contradiction
  · split at h
    · omega
    · rename_i hm
      split at h
      · contradiction
      · rename_i h3
        refine ⟨by simpa using h3, ?_, by simpa using hm⟩
        split at h
        · rename_i h4
          have hz := keyE_zero h
          have := zeroAt_ge L (targetV L p q t k).toNat
          unfold findN; rw [if_pos h4]; omega
        · rename_i h4
          have := cntE_zero h
          unfold findN; rw [if_neg h4]; omega
theorem conv_find (b o n cap : Nat) (L : List UInt8) (p q t k : Int) (mem : Bool) (w : World) (D : Doc w b o n cap L) :
    (convert 22 9 (findV b o L p q t k mem)).run Try.prog w = .ok (strV (findS L p q t k mem)) w := by
  unfold findV findS
  split
  · rename_i h
    exact conv_cut b o n cap L w D _ _ (by rw [← D.len]; exact (findE_zero h).2.1)
  · exact conv_none w
theorem findV_form (b o : Nat) (L : List UInt8) (p q t k : Int) (mem : Bool) : ∃ A k', findV b o L p q t k mem = .slice A k' k' := by
  unfold findV; split
  · obtain ⟨A, h⟩ := cutV_form b o (targetV L p q t k).toNat (findN L p q t k); exact ⟨A, _, h⟩
  · exact ⟨_, _, rfl⟩
set_option maxRecDepth 20000 in
set_option maxHeartbeats 1000000 in
theorem text_any (b o n cap : Nat) (L : List UInt8) (p q t k : Int) (bt m : Nat) (ts : List Int) (mem : Bool) (w : World) (D : Doc w b o n cap L) (hts : ts.length = m) (hm0 : 0 < m) (hm : m ≤ 8) (hr : ∀ i, i < m → 0 ≤ ts.getD i 0 ∧ ts.getD i 0 < 256)
    (hc : ∀ i, i < m → w.cell? ⟨bt, 0 + i, none⟩ = some (.int .i64 (ts.getD i 0))) (hbt : bt < w.heap.size) (hmem : legalB t = true → (idxB ts t < 0 ↔ mem = false)) :
    Calls Try.prog 132 #[.slice (some ⟨b, o, none⟩) n cap, .agg #[.int .i64 p, .int .i64 q, .int .i64 t, .int .i64 k], .slice (some ⟨bt, 0, none⟩) m m] w fun e w' =>
      e = .returned (.tuple #[strV (findS L p q t k mem), .int .i64 (findE L p q t k mem)]) ∧ Below w.heap.size w w' := by
  have hbw := D.lt
  have Hm := Lib.hid hmem; clear hmem
  have Hr := Lib.hid hr; clear hr
  have Hc := Lib.hid hc; clear hc
  have Hts := Lib.hid hts; clear hts
  obtain ⟨A, k', hA⟩ := findV_form b o L p q t k mem
  have Hconv := Lib.hid (fun W (D' : Doc W b o n cap L) => conv_find b o n cap L p q t k mem W D')
  rw [hA] at Hconv
  go_enter Try.func132, Try.ntmps132
  go_wp2_with fail
  refine (find_any _ _ _ _ L _ _ _ _ bt m ts mem _ (D.below zw) Hts.out hm0 hm Hr.out (fun i hi => (Below.cell (w := w) (B := w.heap.size) (p := ⟨bt, 0 + i, none⟩) zw hbt).trans (Hc.out i hi)) (by simp only [World.size_alloc, World.size_setCell, World.size_drew]; omega) Hm.out).mono ?_
  rintro e w1 ⟨rfl, hb1⟩
  obtain ⟨hc1, hf1, hl1⟩ := bcell hb1
  have hz1 := hb1.size
  (try simp only [World.size_alloc] at hz1)
  (try simp only [World.size_alloc] at hz1)
  (try have g0 : w.heap.size < w1.heap.size := by omega); (try have g1 : w.heap.size + 1 < w1.heap.size := by omega); (try have g2 : w.heap.size + 2 < w1.heap.size := by omega); (try have gb : b < w1.heap.size := by omega); (try have g3 : w.heap.size + 3 < w1.heap.size := by omega); (try have hbb : Below w.heap.size w w1 := zw); (try obtain ⟨hco, hfo, _⟩ := bcell hbb); (try have hb1 := hb1)
  go_wp2_with ((with_reducible refine conv_to (o := ⟨some 19, .convert 22 9 (.tmp 18), _, _, _, _⟩) ?_ 22 9 (.tmp 18) ?_ (.slice A k' k') (strV (findS L p q t k mem)) ?_ ?_ ?_); rfl; rfl; rfl; (exact Hconv.out _ (D.below zw)))
  go_returns
  exact ⟨rfl, by exact zw⟩
theorem idx_key (t : Int) (h : legalB t = true) : idxB [4] t < 0 ↔ (t == 4) = false := by
  obtain ⟨h0, h1⟩ := kindOf_in h
  have : t = 0 ∨ t = 1 ∨ t = 2 ∨ t = 3 ∨ t = 4 ∨ t = 5 ∨ t = 6 ∨ t = 7 ∨ t = 8 ∨ t = 9 ∨ t = 10 ∨ t = 11 ∨ t = 12 ∨ t = 13 ∨ t = 14 ∨ t = 15 ∨ t = 16 ∨ t = 17 ∨ t = 18 ∨ t = 19 ∨ t = 20 ∨ t = 21 ∨ t = 22 ∨ t = 23 ∨ t = 24 ∨ t = 25 ∨ t = 26 ∨ t = 27 ∨ t = 28 ∨ t = 29 ∨ t = 30 ∨ t = 31 ∨ t = 32 ∨ t = 33 ∨ t = 34 ∨ t = 35 ∨ t = 36 := by omega
  rcases this with rfl | rfl | rfl | rfl | rfl | rfl | rfl | rfl | rfl | rfl | rfl | rfl | rfl | rfl | rfl | rfl | rfl | rfl | rfl | rfl | rfl | rfl | rfl | rfl | rfl | rfl | rfl | rfl | rfl | rfl | rfl | rfl | rfl | rfl | rfl | rfl | rfl
  all_goals decide
theorem idx_blob (t : Int) (h : legalB t = true) : idxB [25] t < 0 ↔ (t == 25) = false := by
  obtain ⟨h0, h1⟩ := kindOf_in h
  have : t = 0 ∨ t = 1 ∨ t = 2 ∨ t = 3 ∨ t = 4 ∨ t = 5 ∨ t = 6 ∨ t = 7 ∨ t = 8 ∨ t = 9 ∨ t = 10 ∨ t = 11 ∨ t = 12 ∨ t = 13 ∨ t = 14 ∨ t = 15 ∨ t = 16 ∨ t = 17 ∨ t = 18 ∨ t = 19 ∨ t = 20 ∨ t = 21 ∨ t = 22 ∨ t = 23 ∨ t = 24 ∨ t = 25 ∨ t = 26 ∨ t = 27 ∨ t = 28 ∨ t = 29 ∨ t = 30 ∨ t = 31 ∨ t = 32 ∨ t = 33 ∨ t = 34 ∨ t = 35 ∨ t = 36 := by omega
  rcases this with rfl | rfl | rfl | rfl | rfl | rfl | rfl | rfl | rfl | rfl | rfl | rfl | rfl | rfl | rfl | rfl | rfl | rfl | rfl | rfl | rfl | rfl | rfl | rfl | rfl | rfl | rfl | rfl | rfl | rfl | rfl | rfl | rfl | rfl | rfl | rfl | rfl
  all_goals decide
theorem idx_text (t : Int) (h : legalB t = true) : idxB [4, 5] t < 0 ↔ (t == 4 || t == 5) = false := by
  obtain ⟨h0, h1⟩ := kindOf_in h
  have : t = 0 ∨ t = 1 ∨ t = 2 ∨ t = 3 ∨ t = 4 ∨ t = 5 ∨ t = 6 ∨ t = 7 ∨ t = 8 ∨ t = 9 ∨ t = 10 ∨ t = 11 ∨ t = 12 ∨ t = 13 ∨ t = 14 ∨ t = 15 ∨ t = 16 ∨ t = 17 ∨ t = 18 ∨ t = 19 ∨ t = 20 ∨ t = 21 ∨ t = 22 ∨ t = 23 ∨ t = 24 ∨ t = 25 ∨ t = 26 ∨ t = 27 ∨ t = 28 ∨ t = 29 ∨ t = 30 ∨ t = 31 ∨ t = 32 ∨ t = 33 ∨ t = 34 ∨ t = 35 ∨ t = 36 := by omega
  rcases this with rfl | rfl | rfl | rfl | rfl | rfl | rfl | rfl | rfl | rfl | rfl | rfl | rfl | rfl | rfl | rfl | rfl | rfl | rfl | rfl | rfl | rfl | rfl | rfl | rfl | rfl | rfl | rfl | rfl | rfl | rfl | rfl | rfl | rfl | rfl | rfl | rfl
  all_goals decide
theorem idx_any3 (t : Int) (h : legalB t = true) : idxB [4, 5, 25] t < 0 ↔ (t == 4 || t == 5 || t == 25) = false := by
  obtain ⟨h0, h1⟩ := kindOf_in h
  have : t = 0 ∨ t = 1 ∨ t = 2 ∨ t = 3 ∨ t = 4 ∨ t = 5 ∨ t = 6 ∨ t = 7 ∨ t = 8 ∨ t = 9 ∨ t = 10 ∨ t = 11 ∨ t = 12 ∨ t = 13 ∨ t = 14 ∨ t = 15 ∨ t = 16 ∨ t = 17 ∨ t = 18 ∨ t = 19 ∨ t = 20 ∨ t = 21 ∨ t = 22 ∨ t = 23 ∨ t = 24 ∨ t = 25 ∨ t = 26 ∨ t = 27 ∨ t = 28 ∨ t = 29 ∨ t = 30 ∨ t = 31 ∨ t = 32 ∨ t = 33 ∨ t = 34 ∨ t = 35 ∨ t = 36 := by omega
  rcases this with rfl | rfl | rfl | rfl | rfl | rfl | rfl | rfl | rfl | rfl | rfl | rfl | rfl | rfl | rfl | rfl | rfl | rfl | rfl | rfl | rfl | rfl | rfl | rfl | rfl | rfl | rfl | rfl | rfl | rfl | rfl | rfl | rfl | rfl | rfl | rfl | rfl
  all_goals decide
set_option maxHeartbeats 1000000 in
theorem tkey_any (b o n cap : Nat) (L : List UInt8) (p q t k : Int) (w : World) (D : Doc w b o n cap L) :
    Calls Try.prog 111 #[.slice (some ⟨b, o, none⟩) n cap, .agg #[.int .i64 p, .int .i64 q, .int .i64 t, .int .i64 k]] w fun e w' =>
      e = .returned (.tuple #[strV (findS L p q t k (t == 4)), .int .i64 (findE L p q t k (t == 4))]) ∧ Below w.heap.size w w' := by
  have hbw := D.lt
  go_enter Try.func111, Try.ntmps111
  go_wp2_with fail
  refine (text_any _ _ _ _ L _ _ _ _ _ 1 [4] (t == 4) _ (D.below zw) rfl (by decide) (by decide) (by decide) (fun i hi => ?_) (by simp) (idx_key t)).mono ?_
  · have : i = 0 := by omega
    rcases this with rfl <;> simp [go_sem]
  rintro e w1 ⟨rfl, hb1⟩
  have hz1 := hb1.size
  (try simp only [World.size_alloc] at hz1)
  go_wp2
  go_returns
  exact ⟨rfl, by exact zw⟩
set_option maxHeartbeats 1000000 in
theorem ttext_any (b o n cap : Nat) (L : List UInt8) (p q t k : Int) (w : World) (D : Doc w b o n cap L) :
    Calls Try.prog 121 #[.slice (some ⟨b, o, none⟩) n cap, .agg #[.int .i64 p, .int .i64 q, .int .i64 t, .int .i64 k]] w fun e w' =>
      e = .returned (.tuple #[strV (findS L p q t k (t == 4 || t == 5)), .int .i64 (findE L p q t k (t == 4 || t == 5))]) ∧ Below w.heap.size w w' := by
  have hbw := D.lt
  go_enter Try.func121, Try.ntmps121
  go_wp2_with fail
  refine (text_any _ _ _ _ L _ _ _ _ _ 2 [4, 5] (t == 4 || t == 5) _ (D.below zw) rfl (by decide) (by decide) (by decide) (fun i hi => ?_) (by simp) (idx_text t)).mono ?_
  · have : i = 0 ∨ i = 1 := by omega
    rcases this with rfl | rfl <;> simp [go_sem]
  rintro e w1 ⟨rfl, hb1⟩
  have hz1 := hb1.size
  (try simp only [World.size_alloc] at hz1)
  go_wp2
  go_returns
  exact ⟨rfl, by exact zw⟩
set_option maxHeartbeats 1000000 in
theorem tblob_any (b o n cap : Nat) (L : List UInt8) (p q t k : Int) (w : World) (D : Doc w b o n cap L) :
    Calls Try.prog 122 #[.slice (some ⟨b, o, none⟩) n cap, .agg #[.int .i64 p, .int .i64 q, .int .i64 t, .int .i64 k]] w fun e w' =>
      e = .returned (.tuple #[strV (findS L p q t k (t == 25)), .int .i64 (findE L p q t k (t == 25))]) ∧ Below w.heap.size w w' := by
  have hbw := D.lt
  go_enter Try.func122, Try.ntmps122
  go_wp2_with fail
  refine (text_any _ _ _ _ L _ _ _ _ _ 1 [25] (t == 25) _ (D.below zw) rfl (by decide) (by decide) (by decide) (fun i hi => ?_) (by simp) (idx_blob t)).mono ?_
  · have : i = 0 := by omega
    rcases this with rfl <;> simp [go_sem]
  rintro e w1 ⟨rfl, hb1⟩
  have hz1 := hb1.size
  (try simp only [World.size_alloc] at hz1)
  go_wp2
  go_returns
  exact ⟨rfl, by exact zw⟩
set_option maxHeartbeats 1000000 in
theorem tplace_any (b o n cap : Nat) (L : List UInt8) (p q t k : Int) (w : World) (D : Doc w b o n cap L) :
    Calls Try.prog 83 #[.slice (some ⟨b, o, none⟩) n cap, .agg #[.int .i64 p, .int .i64 q, .int .i64 t, .int .i64 k]] w fun e w' =>
      (∃ a l, e = .returned (.tuple #[.int .i64 a, .int .i64 l, .int .i64 (findE L p q t k (t == 4 || t == 5 || t == 25))])) ∧ Below w.heap.size w w' := by
  have hbw := D.lt
  obtain ⟨A, k', hA⟩ := findV_form b o L p q t k (t == 4 || t == 5 || t == 25)
  go_enter Try.func83, Try.ntmps83
  go_wp2_with fail
  refine (find_any _ _ _ _ L _ _ _ _ _ 3 [4, 5, 25] (t == 4 || t == 5 || t == 25) _ (D.below zw) rfl (by decide) (by decide) (by decide) (fun i hi => ?_) (by simp) (idx_any3 t)).mono ?_
  · have : i = 0 ∨ i = 1 ∨ i = 2 := by omega
    rcases this with rfl | rfl | rfl <;> simp [go_sem]
  rintro e w1 ⟨rfl, hb1⟩
  have hz1 := hb1.size
  (try simp only [World.size_alloc] at hz1)
  go_wp2
  go_region
  all_goals go_wp2
  all_goals go_returns
  all_goals exact ⟨⟨_, _, rfl⟩, by exact zw⟩
end Go.Proofs.Ytmpflnlajakibaa
