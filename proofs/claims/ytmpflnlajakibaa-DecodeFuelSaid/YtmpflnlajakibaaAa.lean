/- The walks of scalar: the map of the readers, Place. The walks of begins (in verify and in decode). -/
import Derived.Test.YtmpflnlajakibaaA2
import Derived.Test.YtmpflnlajakibaaA7
namespace Go.Proofs.Ytmpflnlajakibaa
set_option linter.unusedVariables false
set_option linter.unusedSimpArgs false
section
open Go.RowKit
theorem set_new (w : World) (a o : Obj) : { w.alloc a with heap := (w.alloc a).heap.setIfInBounds w.heap.size o } = w.alloc o := by
  simp only [World.alloc]
  congr 1
  apply Array.ext_getElem?
  intro i
  rw [Array.getElem?_setIfInBounds, Array.getElem?_push, Array.getElem?_push]
  by_cases h : w.heap.size = i
  · subst h; simp
  · rw [if_neg h, if_neg (by omega), if_neg (by omega)]
theorem ins_lit {P : Program} (T K E : TypeId) (kk : IntKind) (hT : P.underlying T = some (.map K E)) (hK : P.underlying K = some (.int kk)) (w : World) (es : Array MapEntry) (clock : Nat) (n : Int) (val : Value)
    (hf : Instr.findNow (.int kk) (.int kk n) es.toList 0 = some none) :
    (Instr.mapUpdate T (.map (some w.heap.size)) (.int kk n) val).run P (w.alloc (.map es clock)) = .ok () (w.alloc (.map (es.push ⟨.int kk n, val, clock⟩) (clock + 1))) := by
  have hg : (w.alloc (.map es clock)).heap[w.heap.size]? = some (.map es clock) := heap_alloc_new _ _
  have hc := fun e => MapKept.run_checkKey (P := P) (w := w.alloc (.map es clock)) hK (k := .int kk n) (by simp [MapKept.IsKey]) e 9999
  simp [Instr.mapUpdate, run_underlying hT, MapKept.run_getObj_map hg, hc, MapKept.run_findKey hK hf, MapKept.run_setObj_map _ hg, Result.andThen]
  exact set_new w _ _
theorem look_lit {P : Program} (T K E : TypeId) (kk : IntKind) (hT : P.underlying T = some (.map K E)) (hK : P.underlying K = some (.int kk)) (w : World) (b : Nat) (es : Array MapEntry) (clock : Nat) (n : Int) (r : Option (Nat × Value)) (c : Bool)
    (hg : w.heap[b]? = some (.map es clock)) (z : Value) (hz : (zeroValue E).run P w = .ok z w)
    (hf : Instr.findNow (.int kk) (.int kk n) es.toList 0 = some r) :
    (Instr.lookup T (.map (some b)) (.int kk n) c).run P w = .ok (if c then .tuple #[((r.map (·.2)).getD z), .bool r.isSome] else (r.map (·.2)).getD z) w := by
  have hc := fun e => MapKept.run_checkKey (P := P) (w := w) hK (k := .int kk n) (by simp [MapKept.IsKey]) e 9999
  cases r with
  | none => simp [Instr.lookup, run_underlying hT, MapKept.run_getObj_map hg, hc, MapKept.run_findKey hK hf, hz, Result.andThen]
  | some x => obtain ⟨i, v⟩ := x; simp [Instr.lookup, run_underlying hT, MapKept.run_getObj_map hg, hc, MapKept.run_findKey hK hf, Result.andThen]
def fnS (f : Nat) : Value := .func (.func f) #[] #[]
def rdEntries : Array MapEntry := #[⟨.int .i64 0, fnS 128, 0⟩, ⟨.int .i64 26, fnS 129, 1⟩, ⟨.int .i64 1, fnS 131, 2⟩, ⟨.int .i64 6, fnS 131, 3⟩, ⟨.int .i64 2, fnS 130, 4⟩, ⟨.int .i64 7, fnS 130, 5⟩]
set_option maxRecDepth 100000 in
set_option maxHeartbeats 2000000 in
theorem readers_any (w : World) : Calls Try.prog 110 #[] w fun e w' => e = .returned (.map (some w.heap.size)) ∧ w' = w.alloc (.map rdEntries 6) := by
  have hmm := @run_makeMap Try.prog
  have ins := fun (es : Array MapEntry) (clock : Nat) (n : Int) (val : Value) (hf : Instr.findNow (.int .i64) (.int .i64 n) es.toList 0 = some none) => ins_lit (P := Try.prog) 147 3 145 .i64 Try.underlying147 Try.underlying3 w es clock n val hf
  have i0 : (Instr.mapUpdate 147 (.map (some w.heap.size)) (.int .i64 0) (.func (.func 128) #[] #[])).run Try.prog (w.alloc (.map #[] 0)) = .ok () (w.alloc (.map #[⟨.int .i64 0, .func (.func 128) #[] #[], 0⟩] 1)) := ins #[] 0 0 _ rfl
  have i1 : (Instr.mapUpdate 147 (.map (some w.heap.size)) (.int .i64 26) (.func (.func 129) #[] #[])).run Try.prog (w.alloc (.map #[⟨.int .i64 0, .func (.func 128) #[] #[], 0⟩] 1)) = .ok () (w.alloc (.map #[⟨.int .i64 0, .func (.func 128) #[] #[], 0⟩, ⟨.int .i64 26, .func (.func 129) #[] #[], 1⟩] 2)) := ins #[⟨.int .i64 0, .func (.func 128) #[] #[], 0⟩] 1 26 _ rfl
  have i2 : (Instr.mapUpdate 147 (.map (some w.heap.size)) (.int .i64 1) (.func (.func 131) #[] #[])).run Try.prog (w.alloc (.map #[⟨.int .i64 0, .func (.func 128) #[] #[], 0⟩, ⟨.int .i64 26, .func (.func 129) #[] #[], 1⟩] 2)) = .ok () (w.alloc (.map #[⟨.int .i64 0, .func (.func 128) #[] #[], 0⟩, ⟨.int .i64 26, .func (.func 129) #[] #[], 1⟩, ⟨.int .i64 1, .func (.func 131) #[] #[], 2⟩] 3)) := ins #[⟨.int .i64 0, .func (.func 128) #[] #[], 0⟩, ⟨.int .i64 26, .func (.func 129) #[] #[], 1⟩] 2 1 _ rfl
  have i3 : (Instr.mapUpdate 147 (.map (some w.heap.size)) (.int .i64 6) (.func (.func 131) #[] #[])).run Try.prog (w.alloc (.map #[⟨.int .i64 0, .func (.func 128) #[] #[], 0⟩, ⟨.int .i64 26, .func (.func 129) #[] #[], 1⟩, ⟨.int .i64 1, .func (.func 131) #[] #[], 2⟩] 3)) = .ok () (w.alloc (.map #[⟨.int .i64 0, .func (.func 128) #[] #[], 0⟩, ⟨.int .i64 26, .func (.func 129) #[] #[], 1⟩, ⟨.int .i64 1, .func (.func 131) #[] #[], 2⟩, ⟨.int .i64 6, .func (.func 131) #[] #[], 3⟩] 4)) := ins #[⟨.int .i64 0, .func (.func 128) #[] #[], 0⟩, ⟨.int .i64 26, .func (.func 129) #[] #[], 1⟩, ⟨.int .i64 1, .func (.func 131) #[] #[], 2⟩] 3 6 _ rfl
  have i4 : (Instr.mapUpdate 147 (.map (some w.heap.size)) (.int .i64 2) (.func (.func 130) #[] #[])).run Try.prog (w.alloc (.map #[⟨.int .i64 0, .func (.func 128) #[] #[], 0⟩, ⟨.int .i64 26, .func (.func 129) #[] #[], 1⟩, ⟨.int .i64 1, .func (.func 131) #[] #[], 2⟩, ⟨.int .i64 6, .func (.func 131) #[] #[], 3⟩] 4)) = .ok () (w.alloc (.map #[⟨.int .i64 0, .func (.func 128) #[] #[], 0⟩, ⟨.int .i64 26, .func (.func 129) #[] #[], 1⟩, ⟨.int .i64 1, .func (.func 131) #[] #[], 2⟩, ⟨.int .i64 6, .func (.func 131) #[] #[], 3⟩, ⟨.int .i64 2, .func (.func 130) #[] #[], 4⟩] 5)) := ins #[⟨.int .i64 0, .func (.func 128) #[] #[], 0⟩, ⟨.int .i64 26, .func (.func 129) #[] #[], 1⟩, ⟨.int .i64 1, .func (.func 131) #[] #[], 2⟩, ⟨.int .i64 6, .func (.func 131) #[] #[], 3⟩] 4 2 _ rfl
  have i5 : (Instr.mapUpdate 147 (.map (some w.heap.size)) (.int .i64 7) (.func (.func 130) #[] #[])).run Try.prog (w.alloc (.map #[⟨.int .i64 0, .func (.func 128) #[] #[], 0⟩, ⟨.int .i64 26, .func (.func 129) #[] #[], 1⟩, ⟨.int .i64 1, .func (.func 131) #[] #[], 2⟩, ⟨.int .i64 6, .func (.func 131) #[] #[], 3⟩, ⟨.int .i64 2, .func (.func 130) #[] #[], 4⟩] 5)) = .ok () (w.alloc (.map #[⟨.int .i64 0, .func (.func 128) #[] #[], 0⟩, ⟨.int .i64 26, .func (.func 129) #[] #[], 1⟩, ⟨.int .i64 1, .func (.func 131) #[] #[], 2⟩, ⟨.int .i64 6, .func (.func 131) #[] #[], 3⟩, ⟨.int .i64 2, .func (.func 130) #[] #[], 4⟩, ⟨.int .i64 7, .func (.func 130) #[] #[], 5⟩] 6)) := ins #[⟨.int .i64 0, .func (.func 128) #[] #[], 0⟩, ⟨.int .i64 26, .func (.func 129) #[] #[], 1⟩, ⟨.int .i64 1, .func (.func 131) #[] #[], 2⟩, ⟨.int .i64 6, .func (.func 131) #[] #[], 3⟩, ⟨.int .i64 2, .func (.func 130) #[] #[], 4⟩] 5 7 _ rfl
  clear ins
  go_enter Try.func110, Try.ntmps110
  go_wp2
  go_returns
  exact ⟨rfl, rfl⟩
/-- The types of numbers. -/
def scalB (t : Int) : Bool := t == 0 || t == 26 || t == 1 || t == 6 || t == 2 || t == 7
def rdFn (t : Int) : Value := if t == 0 then fnS 128 else if t == 26 then fnS 129 else if t == 1 || t == 6 then fnS 131 else if t == 2 || t == 7 then fnS 130 else .nilFunc
theorem zero_rd (w : World) : (zeroValue 145).run Try.prog w = .ok .nilFunc w := by kernel_rfl
theorem look_rd (t : Int) (h0 : 0 ≤ t) (h1 : t < 37) (w : World) (c : Bool) : (Instr.lookup 147 (.map (some w.heap.size)) (.int .i64 t) c).run Try.prog (w.alloc (.map rdEntries 6)) = .ok (if c then .tuple #[rdFn t, .bool (scalB t)] else rdFn t) (w.alloc (.map rdEntries 6)) := by
  have key := fun (r : Option (Nat × Value)) (hf : Instr.findNow (.int .i64) (.int .i64 t) rdEntries.toList 0 = some r) => look_lit (P := Try.prog) 147 3 145 .i64 Try.underlying147 Try.underlying3 (w.alloc (.map rdEntries 6)) w.heap.size rdEntries 6 t r c (heap_alloc_new _ _) .nilFunc (zero_rd _) hf
  have : t = 0 ∨ t = 1 ∨ t = 2 ∨ t = 3 ∨ t = 4 ∨ t = 5 ∨ t = 6 ∨ t = 7 ∨ t = 8 ∨ t = 9 ∨ t = 10 ∨ t = 11 ∨ t = 12 ∨ t = 13 ∨ t = 14 ∨ t = 15 ∨ t = 16 ∨ t = 17 ∨ t = 18 ∨ t = 19 ∨ t = 20 ∨ t = 21 ∨ t = 22 ∨ t = 23 ∨ t = 24 ∨ t = 25 ∨ t = 26 ∨ t = 27 ∨ t = 28 ∨ t = 29 ∨ t = 30 ∨ t = 31 ∨ t = 32 ∨ t = 33 ∨ t = 34 ∨ t = 35 ∨ t = 36 := by omega
  rcases this with rfl | rfl | rfl | rfl | rfl | rfl | rfl | rfl | rfl | rfl | rfl | rfl | rfl | rfl | rfl | rfl | rfl | rfl | rfl | rfl | rfl | rfl | rfl | rfl | rfl | rfl | rfl | rfl | rfl | rfl | rfl | rfl | rfl | rfl | rfl | rfl | rfl
  all_goals (exact key _ rfl)
def splaceE (L : List UInt8) (p q t k : Int) : Int :=
  if mayE L.length p q t k ≠ 0 then mayE L.length p q t k else if scalB t = false then 60 else if inlineB t then 0 else if targetE L p q t k ≠ 0 then targetE L p q t k
  else if targetV L p q t k % k ≠ 0 then 212 else if insideB L.length (targetV L p q t k) k = false then 211 else 0
def splaceA (L : List UInt8) (p q t k : Int) : Int := if splaceE L p q t k = 0 then (if inlineB t then p else targetV L p q t k) else 0
def splaceW (L : List UInt8) (p q t k : Int) : Int := if splaceE L p q t k = 0 then (if inlineB t then q else k) else 0
theorem splace_bad {L : List UInt8} {p q t k x : Int} (h : splaceE L p q t k = x) (hx : x ≠ 0) : splaceA L p q t k = 0 ∧ splaceW L p q t k = 0 := by
  subst h; simp [splaceA, splaceW, hx]
theorem look_rd_drew (t : Int) (h0 : 0 ≤ t) (h1 : t < 37) (w : World) (c : Bool) : (Instr.lookup 147 (.map (some w.heap.size)) (.int .i64 t) c).run Try.prog (w.alloc (.map rdEntries 6)).drew = .ok (if c then .tuple #[rdFn t, .bool (scalB t)] else rdFn t) (w.alloc (.map rdEntries 6)).drew := by
  have key := fun (r : Option (Nat × Value)) (hf : Instr.findNow (.int .i64) (.int .i64 t) rdEntries.toList 0 = some r) => look_lit (P := Try.prog) 147 3 145 .i64 Try.underlying147 Try.underlying3 (w.alloc (.map rdEntries 6)).drew w.heap.size rdEntries 6 t r c (heap_alloc_new _ _) .nilFunc (zero_rd _) hf
  have : t = 0 ∨ t = 1 ∨ t = 2 ∨ t = 3 ∨ t = 4 ∨ t = 5 ∨ t = 6 ∨ t = 7 ∨ t = 8 ∨ t = 9 ∨ t = 10 ∨ t = 11 ∨ t = 12 ∨ t = 13 ∨ t = 14 ∨ t = 15 ∨ t = 16 ∨ t = 17 ∨ t = 18 ∨ t = 19 ∨ t = 20 ∨ t = 21 ∨ t = 22 ∨ t = 23 ∨ t = 24 ∨ t = 25 ∨ t = 26 ∨ t = 27 ∨ t = 28 ∨ t = 29 ∨ t = 30 ∨ t = 31 ∨ t = 32 ∨ t = 33 ∨ t = 34 ∨ t = 35 ∨ t = 36 := by omega
  rcases this with rfl | rfl | rfl | rfl | rfl | rfl | rfl | rfl | rfl | rfl | rfl | rfl | rfl | rfl | rfl | rfl | rfl | rfl | rfl | rfl | rfl | rfl | rfl | rfl | rfl | rfl | rfl | rfl | rfl | rfl | rfl | rfl | rfl | rfl | rfl | rfl | rfl
  all_goals (exact key _ rfl)
set_option maxHeartbeats 4000000 in
theorem splace_any (b o n cap : Nat) (L : List UInt8) (p q t k : Int) (w : World) (D : Doc w b o n cap L) :
    Calls Try.prog 81 #[.slice (some ⟨b, o, none⟩) n cap, .agg #[.int .i64 p, .int .i64 q, .int .i64 t, .int .i64 k]] w fun e w' =>
      e = .returned (.tuple #[.int .i64 (splaceA L p q t k), .int .i64 (splaceW L p q t k), .int .i64 (splaceE L p q t k)]) ∧ Below w.heap.size w w' := by
  obtain ⟨hn1, hn2⟩ := D.bd
  have hlen := D.len
  have hbw := D.lt
  have hmax : n ≤ maxLen := Nat.le_trans D.le D.max
  by_cases hm : mayE n p q t k = 0
  · obtain ⟨h1, h2, h3, h4, h5, h6, h7, h8, h9⟩ := mayE_zero hm
    obtain ⟨t0, t1⟩ := kindOf_in h1
    have hlk := fun w => look_rd t t0 t1 w true
    have hlk2 := fun w => look_rd_drew t t0 t1 w true
    simp only [if_true] at hlk hlk2
    by_cases hs : scalB t = false
    · have e1 : splaceE L p q t k = 60 := by simp [splaceE, hlen, hm, hs]
      obtain ⟨e2, e3⟩ := splace_bad e1 (by decide)
      rw [e1, e2, e3]; clear e1 e2 e3 hlen h1 h2 h3
      go_enter Try.func81, Try.ntmps81
      go_wp2_with (first | ((first | (go_at_call 32; refine (may_any _ _ _ _ L _ _ _ _ _ (D.below zw)).mono ?_) | (go_at_call 46; refine (inline_any _ _).mono ?_) | (go_at_call 69; refine (target_any _ _ _ _ L _ _ _ _ _ (D.below zw)).mono ?_)); rintro e w1 ⟨rfl, hb1⟩; obtain ⟨hc1, hf1, hl1⟩ := bcell hb1; (try simp only [zdz] at hc1 hf1 hl1); have hz1 := hb1.size; (try simp only [zsz] at hz1); (try have g0 : w.heap.size < w1.heap.size := by omega); (try have g1 : w.heap.size + 1 < w1.heap.size := by omega); (try have g2 : w.heap.size + 2 < w1.heap.size := by omega); (try have gb : b < w1.heap.size := by omega); (try have g3 : w.heap.size + 3 < w1.heap.size := by omega); (try have hbb : Below w.heap.size w w1 := zw); (try obtain ⟨hco, hfo, _⟩ := bcell hbb); (try have hb1 := hb1)) | (go_at_call 63; refine (inside_any _ _ _ hmax _ _ _).mono ?_; rintro e w1 ⟨rfl, rfl⟩))
      go_region_with (go_at_call 110; refine (readers_any _).mono ?_; rintro e w1 ⟨rfl, rfl⟩)
      clear hlk hlk2
      all_goals go_wp2_with (first | ((first | (go_at_call 32; refine (may_any _ _ _ _ L _ _ _ _ _ (D.below zw)).mono ?_) | (go_at_call 46; refine (inline_any _ _).mono ?_) | (go_at_call 69; refine (target_any _ _ _ _ L _ _ _ _ _ (D.below zw)).mono ?_)); rintro e w1 ⟨rfl, hb1⟩; obtain ⟨hc1, hf1, hl1⟩ := bcell hb1; (try simp only [zdz] at hc1 hf1 hl1); have hz1 := hb1.size; (try simp only [zsz] at hz1); (try have g0 : w.heap.size < w1.heap.size := by omega); (try have g1 : w.heap.size + 1 < w1.heap.size := by omega); (try have g2 : w.heap.size + 2 < w1.heap.size := by omega); (try have gb : b < w1.heap.size := by omega); (try have g3 : w.heap.size + 3 < w1.heap.size := by omega); (try have hbb : Below w.heap.size w w1 := zw); (try obtain ⟨hco, hfo, _⟩ := bcell hbb); (try have hb1 := hb1)) | (go_at_call 63; refine (inside_any _ _ _ hmax _ _ _).mono ?_; rintro e w1 ⟨rfl, rfl⟩))
      all_goals go_returns
      all_goals exact ⟨rfl, by exact zw⟩
    have hs' : scalB t = true := by simpa using hs
    clear hs
    by_cases hi : inlineB t = true
    · have e1 : splaceE L p q t k = 0 := by simp [splaceE, hlen, hm, hs', hi]
      have e2 : splaceA L p q t k = p := by simp [splaceA, e1, hi]
      have e3 : splaceW L p q t k = q := by simp [splaceW, e1, hi]
      rw [e1, e2, e3]; clear e1 e2 e3 hlen h1 h2 h3
      go_enter Try.func81, Try.ntmps81
      go_wp2_with (first | ((first | (go_at_call 32; refine (may_any _ _ _ _ L _ _ _ _ _ (D.below zw)).mono ?_) | (go_at_call 46; refine (inline_any _ _).mono ?_) | (go_at_call 69; refine (target_any _ _ _ _ L _ _ _ _ _ (D.below zw)).mono ?_)); rintro e w1 ⟨rfl, hb1⟩; obtain ⟨hc1, hf1, hl1⟩ := bcell hb1; (try simp only [zdz] at hc1 hf1 hl1); have hz1 := hb1.size; (try simp only [zsz] at hz1); (try have g0 : w.heap.size < w1.heap.size := by omega); (try have g1 : w.heap.size + 1 < w1.heap.size := by omega); (try have g2 : w.heap.size + 2 < w1.heap.size := by omega); (try have gb : b < w1.heap.size := by omega); (try have g3 : w.heap.size + 3 < w1.heap.size := by omega); (try have hbb : Below w.heap.size w w1 := zw); (try obtain ⟨hco, hfo, _⟩ := bcell hbb); (try have hb1 := hb1)) | (go_at_call 63; refine (inside_any _ _ _ hmax _ _ _).mono ?_; rintro e w1 ⟨rfl, rfl⟩))
      go_region_with (go_at_call 110; refine (readers_any _).mono ?_; rintro e w1 ⟨rfl, rfl⟩)
      clear hlk hlk2
      all_goals go_wp2_with (first | ((first | (go_at_call 32; refine (may_any _ _ _ _ L _ _ _ _ _ (D.below zw)).mono ?_) | (go_at_call 46; refine (inline_any _ _).mono ?_) | (go_at_call 69; refine (target_any _ _ _ _ L _ _ _ _ _ (D.below zw)).mono ?_)); rintro e w1 ⟨rfl, hb1⟩; obtain ⟨hc1, hf1, hl1⟩ := bcell hb1; (try simp only [zdz] at hc1 hf1 hl1); have hz1 := hb1.size; (try simp only [zsz] at hz1); (try have g0 : w.heap.size < w1.heap.size := by omega); (try have g1 : w.heap.size + 1 < w1.heap.size := by omega); (try have g2 : w.heap.size + 2 < w1.heap.size := by omega); (try have gb : b < w1.heap.size := by omega); (try have g3 : w.heap.size + 3 < w1.heap.size := by omega); (try have hbb : Below w.heap.size w w1 := zw); (try obtain ⟨hco, hfo, _⟩ := bcell hbb); (try have hb1 := hb1)) | (go_at_call 63; refine (inside_any _ _ _ hmax _ _ _).mono ?_; rintro e w1 ⟨rfl, rfl⟩))
      all_goals go_region
      all_goals go_wp2
      all_goals go_returns
      all_goals exact ⟨rfl, by exact zw⟩
    have hi' : inlineB t = false := by simpa using hi
    clear hi
    by_cases ht' : targetE L p q t k ≠ 0
    · have e1 : splaceE L p q t k = targetE L p q t k := by simp [splaceE, hlen, hm, hs', hi', ht']
      obtain ⟨e2, e3⟩ := splace_bad e1 ht'
      have ht'' : (targetE L p q t k != 0) = true := by simpa using ht'
      rw [e1, e2, e3]; clear e1 e2 e3 hlen h1 h2 h3 ht'
      go_enter Try.func81, Try.ntmps81
      go_wp2_with (first | ((first | (go_at_call 32; refine (may_any _ _ _ _ L _ _ _ _ _ (D.below zw)).mono ?_) | (go_at_call 46; refine (inline_any _ _).mono ?_) | (go_at_call 69; refine (target_any _ _ _ _ L _ _ _ _ _ (D.below zw)).mono ?_)); rintro e w1 ⟨rfl, hb1⟩; obtain ⟨hc1, hf1, hl1⟩ := bcell hb1; (try simp only [zdz] at hc1 hf1 hl1); have hz1 := hb1.size; (try simp only [zsz] at hz1); (try have g0 : w.heap.size < w1.heap.size := by omega); (try have g1 : w.heap.size + 1 < w1.heap.size := by omega); (try have g2 : w.heap.size + 2 < w1.heap.size := by omega); (try have gb : b < w1.heap.size := by omega); (try have g3 : w.heap.size + 3 < w1.heap.size := by omega); (try have hbb : Below w.heap.size w w1 := zw); (try obtain ⟨hco, hfo, _⟩ := bcell hbb); (try have hb1 := hb1)) | (go_at_call 63; refine (inside_any _ _ _ hmax _ _ _).mono ?_; rintro e w1 ⟨rfl, rfl⟩))
      go_region_with (go_at_call 110; refine (readers_any _).mono ?_; rintro e w1 ⟨rfl, rfl⟩)
      clear hlk hlk2
      all_goals go_wp2_with (first | ((first | (go_at_call 32; refine (may_any _ _ _ _ L _ _ _ _ _ (D.below zw)).mono ?_) | (go_at_call 46; refine (inline_any _ _).mono ?_) | (go_at_call 69; refine (target_any _ _ _ _ L _ _ _ _ _ (D.below zw)).mono ?_)); rintro e w1 ⟨rfl, hb1⟩; obtain ⟨hc1, hf1, hl1⟩ := bcell hb1; (try simp only [zdz] at hc1 hf1 hl1); have hz1 := hb1.size; (try simp only [zsz] at hz1); (try have g0 : w.heap.size < w1.heap.size := by omega); (try have g1 : w.heap.size + 1 < w1.heap.size := by omega); (try have g2 : w.heap.size + 2 < w1.heap.size := by omega); (try have gb : b < w1.heap.size := by omega); (try have g3 : w.heap.size + 3 < w1.heap.size := by omega); (try have hbb : Below w.heap.size w w1 := zw); (try obtain ⟨hco, hfo, _⟩ := bcell hbb); (try have hb1 := hb1)) | (go_at_call 63; refine (inside_any _ _ _ hmax _ _ _).mono ?_; rintro e w1 ⟨rfl, rfl⟩))
      all_goals go_returns
      all_goals exact ⟨rfl, by exact zw⟩
    have ht : targetE L p q t k = 0 := by simpa using ht'
    clear ht'
    obtain ⟨-, -, hv0, hv1⟩ := targetE_zero ht
    by_cases hal' : targetV L p q t k % k ≠ 0
    · have e1 : splaceE L p q t k = 212 := by simp [splaceE, hlen, hm, hs', hi', ht, hal']
      obtain ⟨e2, e3⟩ := splace_bad e1 (by decide)
      have hal : (targetV L p q t k % k != 0) = true := by simpa using hal'
      rw [e1, e2, e3]; clear e1 e2 e3 hlen h1 h2 h3 hal'
      go_enter Try.func81, Try.ntmps81
      go_wp2_with (first | ((first | (go_at_call 32; refine (may_any _ _ _ _ L _ _ _ _ _ (D.below zw)).mono ?_) | (go_at_call 46; refine (inline_any _ _).mono ?_) | (go_at_call 69; refine (target_any _ _ _ _ L _ _ _ _ _ (D.below zw)).mono ?_)); rintro e w1 ⟨rfl, hb1⟩; obtain ⟨hc1, hf1, hl1⟩ := bcell hb1; (try simp only [zdz] at hc1 hf1 hl1); have hz1 := hb1.size; (try simp only [zsz] at hz1); (try have g0 : w.heap.size < w1.heap.size := by omega); (try have g1 : w.heap.size + 1 < w1.heap.size := by omega); (try have g2 : w.heap.size + 2 < w1.heap.size := by omega); (try have gb : b < w1.heap.size := by omega); (try have g3 : w.heap.size + 3 < w1.heap.size := by omega); (try have hbb : Below w.heap.size w w1 := zw); (try obtain ⟨hco, hfo, _⟩ := bcell hbb); (try have hb1 := hb1)) | (go_at_call 63; refine (inside_any _ _ _ hmax _ _ _).mono ?_; rintro e w1 ⟨rfl, rfl⟩))
      go_region_with (go_at_call 110; refine (readers_any _).mono ?_; rintro e w1 ⟨rfl, rfl⟩)
      clear hlk hlk2
      all_goals go_wp2_with (first | ((first | (go_at_call 32; refine (may_any _ _ _ _ L _ _ _ _ _ (D.below zw)).mono ?_) | (go_at_call 46; refine (inline_any _ _).mono ?_) | (go_at_call 69; refine (target_any _ _ _ _ L _ _ _ _ _ (D.below zw)).mono ?_)); rintro e w1 ⟨rfl, hb1⟩; obtain ⟨hc1, hf1, hl1⟩ := bcell hb1; (try simp only [zdz] at hc1 hf1 hl1); have hz1 := hb1.size; (try simp only [zsz] at hz1); (try have g0 : w.heap.size < w1.heap.size := by omega); (try have g1 : w.heap.size + 1 < w1.heap.size := by omega); (try have g2 : w.heap.size + 2 < w1.heap.size := by omega); (try have gb : b < w1.heap.size := by omega); (try have g3 : w.heap.size + 3 < w1.heap.size := by omega); (try have hbb : Below w.heap.size w w1 := zw); (try obtain ⟨hco, hfo, _⟩ := bcell hbb); (try have hb1 := hb1)) | (go_at_call 63; refine (inside_any _ _ _ hmax _ _ _).mono ?_; rintro e w1 ⟨rfl, rfl⟩))
      all_goals go_returns
      all_goals exact ⟨rfl, by exact zw⟩
    have hal : (targetV L p q t k % k != 0) = false := by simpa using hal'
    have Hal : Hid (targetV L p q t k % k = 0) := Lib.hid (by simpa using hal')
    clear hal'
    by_cases hn : insideB n (targetV L p q t k) k = false
    · have e1 : splaceE L p q t k = 211 := by simp [splaceE, hlen, hm, hs', hi', ht, Hal.out, hn]
      obtain ⟨e2, e3⟩ := splace_bad e1 (by decide)
      rw [e1, e2, e3]; clear e1 e2 e3 hlen h1 h2 h3
      go_enter Try.func81, Try.ntmps81
      go_wp2_with (first | ((first | (go_at_call 32; refine (may_any _ _ _ _ L _ _ _ _ _ (D.below zw)).mono ?_) | (go_at_call 46; refine (inline_any _ _).mono ?_) | (go_at_call 69; refine (target_any _ _ _ _ L _ _ _ _ _ (D.below zw)).mono ?_)); rintro e w1 ⟨rfl, hb1⟩; obtain ⟨hc1, hf1, hl1⟩ := bcell hb1; (try simp only [zdz] at hc1 hf1 hl1); have hz1 := hb1.size; (try simp only [zsz] at hz1); (try have g0 : w.heap.size < w1.heap.size := by omega); (try have g1 : w.heap.size + 1 < w1.heap.size := by omega); (try have g2 : w.heap.size + 2 < w1.heap.size := by omega); (try have gb : b < w1.heap.size := by omega); (try have g3 : w.heap.size + 3 < w1.heap.size := by omega); (try have hbb : Below w.heap.size w w1 := zw); (try obtain ⟨hco, hfo, _⟩ := bcell hbb); (try have hb1 := hb1)) | (go_at_call 63; refine (inside_any _ _ _ hmax _ _ _).mono ?_; rintro e w1 ⟨rfl, rfl⟩))
      go_region_with (go_at_call 110; refine (readers_any _).mono ?_; rintro e w1 ⟨rfl, rfl⟩)
      clear hlk hlk2
      all_goals go_wp2_with (first | ((first | (go_at_call 32; refine (may_any _ _ _ _ L _ _ _ _ _ (D.below zw)).mono ?_) | (go_at_call 46; refine (inline_any _ _).mono ?_) | (go_at_call 69; refine (target_any _ _ _ _ L _ _ _ _ _ (D.below zw)).mono ?_)); rintro e w1 ⟨rfl, hb1⟩; obtain ⟨hc1, hf1, hl1⟩ := bcell hb1; (try simp only [zdz] at hc1 hf1 hl1); have hz1 := hb1.size; (try simp only [zsz] at hz1); (try have g0 : w.heap.size < w1.heap.size := by omega); (try have g1 : w.heap.size + 1 < w1.heap.size := by omega); (try have g2 : w.heap.size + 2 < w1.heap.size := by omega); (try have gb : b < w1.heap.size := by omega); (try have g3 : w.heap.size + 3 < w1.heap.size := by omega); (try have hbb : Below w.heap.size w w1 := zw); (try obtain ⟨hco, hfo, _⟩ := bcell hbb); (try have hb1 := hb1)) | (go_at_call 63; refine (inside_any _ _ _ hmax _ _ _).mono ?_; rintro e w1 ⟨rfl, rfl⟩))
      all_goals go_returns
      all_goals exact ⟨rfl, by exact zw⟩
    · have hn' : insideB n (targetV L p q t k) k = true := by simpa using hn
      have e1 : splaceE L p q t k = 0 := by simp [splaceE, hlen, hm, hs', hi', ht, Hal.out, hn']
      have e2 : splaceA L p q t k = targetV L p q t k := by simp [splaceA, e1, hi']
      have e3 : splaceW L p q t k = k := by simp [splaceW, e1, hi']
      rw [e1, e2, e3]; clear e1 e2 e3 hlen h1 h2 h3 hn
      go_enter Try.func81, Try.ntmps81
      go_wp2_with (first | ((first | (go_at_call 32; refine (may_any _ _ _ _ L _ _ _ _ _ (D.below zw)).mono ?_) | (go_at_call 46; refine (inline_any _ _).mono ?_) | (go_at_call 69; refine (target_any _ _ _ _ L _ _ _ _ _ (D.below zw)).mono ?_)); rintro e w1 ⟨rfl, hb1⟩; obtain ⟨hc1, hf1, hl1⟩ := bcell hb1; (try simp only [zdz] at hc1 hf1 hl1); have hz1 := hb1.size; (try simp only [zsz] at hz1); (try have g0 : w.heap.size < w1.heap.size := by omega); (try have g1 : w.heap.size + 1 < w1.heap.size := by omega); (try have g2 : w.heap.size + 2 < w1.heap.size := by omega); (try have gb : b < w1.heap.size := by omega); (try have g3 : w.heap.size + 3 < w1.heap.size := by omega); (try have hbb : Below w.heap.size w w1 := zw); (try obtain ⟨hco, hfo, _⟩ := bcell hbb); (try have hb1 := hb1)) | (go_at_call 63; refine (inside_any _ _ _ hmax _ _ _).mono ?_; rintro e w1 ⟨rfl, rfl⟩))
      go_region_with (go_at_call 110; refine (readers_any _).mono ?_; rintro e w1 ⟨rfl, rfl⟩)
      clear hlk hlk2
      all_goals go_wp2_with (first | ((first | (go_at_call 32; refine (may_any _ _ _ _ L _ _ _ _ _ (D.below zw)).mono ?_) | (go_at_call 46; refine (inline_any _ _).mono ?_) | (go_at_call 69; refine (target_any _ _ _ _ L _ _ _ _ _ (D.below zw)).mono ?_)); rintro e w1 ⟨rfl, hb1⟩; obtain ⟨hc1, hf1, hl1⟩ := bcell hb1; (try simp only [zdz] at hc1 hf1 hl1); have hz1 := hb1.size; (try simp only [zsz] at hz1); (try have g0 : w.heap.size < w1.heap.size := by omega); (try have g1 : w.heap.size + 1 < w1.heap.size := by omega); (try have g2 : w.heap.size + 2 < w1.heap.size := by omega); (try have gb : b < w1.heap.size := by omega); (try have g3 : w.heap.size + 3 < w1.heap.size := by omega); (try have hbb : Below w.heap.size w w1 := zw); (try obtain ⟨hco, hfo, _⟩ := bcell hbb); (try have hb1 := hb1)) | (go_at_call 63; refine (inside_any _ _ _ hmax _ _ _).mono ?_; rintro e w1 ⟨rfl, rfl⟩))
      all_goals go_region
      all_goals go_wp2
      all_goals go_returns
      all_goals exact ⟨rfl, by exact zw⟩
  · have e1 : splaceE L p q t k = mayE n p q t k := by simp [splaceE, hlen, hm]
    obtain ⟨e2, e3⟩ := splace_bad e1 hm
    have hm' : (mayE n p q t k != 0) = true := by simpa using hm
    rw [e1, e2, e3]; clear e1 e2 e3 hlen hm
    go_enter Try.func81, Try.ntmps81
    go_wp2_with (first | ((first | (go_at_call 32; refine (may_any _ _ _ _ L _ _ _ _ _ (D.below zw)).mono ?_) | (go_at_call 46; refine (inline_any _ _).mono ?_) | (go_at_call 69; refine (target_any _ _ _ _ L _ _ _ _ _ (D.below zw)).mono ?_)); rintro e w1 ⟨rfl, hb1⟩; obtain ⟨hc1, hf1, hl1⟩ := bcell hb1; (try simp only [zdz] at hc1 hf1 hl1); have hz1 := hb1.size; (try simp only [zsz] at hz1); (try have g0 : w.heap.size < w1.heap.size := by omega); (try have g1 : w.heap.size + 1 < w1.heap.size := by omega); (try have g2 : w.heap.size + 2 < w1.heap.size := by omega); (try have gb : b < w1.heap.size := by omega); (try have g3 : w.heap.size + 3 < w1.heap.size := by omega); (try have hbb : Below w.heap.size w w1 := zw); (try obtain ⟨hco, hfo, _⟩ := bcell hbb); (try have hb1 := hb1)) | (go_at_call 63; refine (inside_any _ _ _ hmax _ _ _).mono ?_; rintro e w1 ⟨rfl, rfl⟩))
    go_returns
    exact ⟨rfl, by exact zw⟩
end
section
open Go.RowKit
/-- The start of the data at a target. -/
def beginsV (t k a : Int) : Int := if t == 9 then a - 3 * k else if t == 5 || t == 25 || t == 10 || (vecB t && manyOf t == 0) then a - k else a
set_option maxHeartbeats 2000000 in
theorem begins_any (p q t k a : Int) (w : World) (h1 : 0 ≤ a) (h2 : a ≤ 1073741824) (h3 : 1 ≤ k) (h4 : k ≤ 8) :
    Calls Try.prog 80 #[.agg #[.int .i64 p, .int .i64 q, .int .i64 t, .int .i64 k], .int .i64 a] w fun e w' => e = .returned (.int .i64 (beginsV t k a)) ∧ Below w.heap.size w w' := by
  by_cases t9 : t = 9
  · subst t9
    have e1 : beginsV 9 k a = a - 3 * k := by simp [beginsV]
    rw [e1]; clear e1
    go_enter Try.func80, Try.ntmps80
    go_wp2_with (go_at_call 70; refine (elem_any _ _).mono ?_; rintro e w1 ⟨rfl, hb1⟩; obtain ⟨hc1, hf1, hl1⟩ := bcell hb1; (try simp only [zdz] at hc1 hf1 hl1); have hz1 := hb1.size; (try simp only [zsz] at hz1); (try have g0 : w.heap.size < w1.heap.size := by omega); (try have g1 : w.heap.size + 1 < w1.heap.size := by omega); (try have g2 : w.heap.size + 2 < w1.heap.size := by omega); (try have gb : b < w1.heap.size := by omega); (try have g3 : w.heap.size + 3 < w1.heap.size := by omega); (try have hbb : Below w.heap.size w w1 := zw); (try obtain ⟨hco, hfo, _⟩ := bcell hbb); (try have hb1 := hb1))
    go_returns
    exact ⟨rfl, by exact zw⟩
  have g9 : (t == 9) = false := by simpa using t9
  by_cases t5 : t = 5
  · subst t5
    have e1 : beginsV 5 k a = a - k := by simp [beginsV]
    rw [e1]; clear e1
    go_enter Try.func80, Try.ntmps80
    go_wp2_with (go_at_call 70; refine (elem_any _ _).mono ?_; rintro e w1 ⟨rfl, hb1⟩; obtain ⟨hc1, hf1, hl1⟩ := bcell hb1; (try simp only [zdz] at hc1 hf1 hl1); have hz1 := hb1.size; (try simp only [zsz] at hz1); (try have g0 : w.heap.size < w1.heap.size := by omega); (try have g1 : w.heap.size + 1 < w1.heap.size := by omega); (try have g2 : w.heap.size + 2 < w1.heap.size := by omega); (try have gb : b < w1.heap.size := by omega); (try have g3 : w.heap.size + 3 < w1.heap.size := by omega); (try have hbb : Below w.heap.size w w1 := zw); (try obtain ⟨hco, hfo, _⟩ := bcell hbb); (try have hb1 := hb1))
    go_returns
    exact ⟨rfl, by exact zw⟩
  have g5 : (t == 5) = false := by simpa using t5
  by_cases t25 : t = 25
  · subst t25
    have e1 : beginsV 25 k a = a - k := by simp [beginsV]
    rw [e1]; clear e1
    go_enter Try.func80, Try.ntmps80
    go_wp2_with (go_at_call 70; refine (elem_any _ _).mono ?_; rintro e w1 ⟨rfl, hb1⟩; obtain ⟨hc1, hf1, hl1⟩ := bcell hb1; (try simp only [zdz] at hc1 hf1 hl1); have hz1 := hb1.size; (try simp only [zsz] at hz1); (try have g0 : w.heap.size < w1.heap.size := by omega); (try have g1 : w.heap.size + 1 < w1.heap.size := by omega); (try have g2 : w.heap.size + 2 < w1.heap.size := by omega); (try have gb : b < w1.heap.size := by omega); (try have g3 : w.heap.size + 3 < w1.heap.size := by omega); (try have hbb : Below w.heap.size w w1 := zw); (try obtain ⟨hco, hfo, _⟩ := bcell hbb); (try have hb1 := hb1))
    go_returns
    exact ⟨rfl, by exact zw⟩
  have g25 : (t == 25) = false := by simpa using t25
  by_cases t10 : t = 10
  · subst t10
    have e1 : beginsV 10 k a = a - k := by simp [beginsV]
    rw [e1]; clear e1
    go_enter Try.func80, Try.ntmps80
    go_wp2_with (go_at_call 70; refine (elem_any _ _).mono ?_; rintro e w1 ⟨rfl, hb1⟩; obtain ⟨hc1, hf1, hl1⟩ := bcell hb1; (try simp only [zdz] at hc1 hf1 hl1); have hz1 := hb1.size; (try simp only [zsz] at hz1); (try have g0 : w.heap.size < w1.heap.size := by omega); (try have g1 : w.heap.size + 1 < w1.heap.size := by omega); (try have g2 : w.heap.size + 2 < w1.heap.size := by omega); (try have gb : b < w1.heap.size := by omega); (try have g3 : w.heap.size + 3 < w1.heap.size := by omega); (try have hbb : Below w.heap.size w w1 := zw); (try obtain ⟨hco, hfo, _⟩ := bcell hbb); (try have hb1 := hb1))
    go_returns
    exact ⟨rfl, by exact zw⟩
  have g10 : (t == 10) = false := by simpa using t10
  clear t9 t5 t25 t10
  by_cases hv : vecB t = true
  · by_cases hm : manyOf t = 0
    · have gm : (manyOf t == 0) = true := by simpa using hm
      have e1 : beginsV t k a = a - k := by simp [beginsV, g9, g5, g25, g10, hv, gm]
      rw [e1]; clear e1 hm
      go_enter Try.func80, Try.ntmps80
      go_wp2_with (go_at_call 70; refine (elem_any _ _).mono ?_; rintro e w1 ⟨rfl, hb1⟩; obtain ⟨hc1, hf1, hl1⟩ := bcell hb1; (try simp only [zdz] at hc1 hf1 hl1); have hz1 := hb1.size; (try simp only [zsz] at hz1); (try have g0 : w.heap.size < w1.heap.size := by omega); (try have g1 : w.heap.size + 1 < w1.heap.size := by omega); (try have g2 : w.heap.size + 2 < w1.heap.size := by omega); (try have gb : b < w1.heap.size := by omega); (try have g3 : w.heap.size + 3 < w1.heap.size := by omega); (try have hbb : Below w.heap.size w w1 := zw); (try obtain ⟨hco, hfo, _⟩ := bcell hbb); (try have hb1 := hb1))
      go_returns
      exact ⟨rfl, by exact zw⟩
    · have gm : (manyOf t == 0) = false := by simpa using hm
      have e1 : beginsV t k a = a := by simp [beginsV, g9, g5, g25, g10, hv, gm]
      rw [e1]; clear e1 hm
      go_enter Try.func80, Try.ntmps80
      go_wp2_with (go_at_call 70; refine (elem_any _ _).mono ?_; rintro e w1 ⟨rfl, hb1⟩; obtain ⟨hc1, hf1, hl1⟩ := bcell hb1; (try simp only [zdz] at hc1 hf1 hl1); have hz1 := hb1.size; (try simp only [zsz] at hz1); (try have g0 : w.heap.size < w1.heap.size := by omega); (try have g1 : w.heap.size + 1 < w1.heap.size := by omega); (try have g2 : w.heap.size + 2 < w1.heap.size := by omega); (try have gb : b < w1.heap.size := by omega); (try have g3 : w.heap.size + 3 < w1.heap.size := by omega); (try have hbb : Below w.heap.size w w1 := zw); (try obtain ⟨hco, hfo, _⟩ := bcell hbb); (try have hb1 := hb1))
      go_returns
      exact ⟨rfl, by exact zw⟩
  · have hv' : vecB t = false := by simpa using hv
    have e1 : beginsV t k a = a := by simp [beginsV, g9, g5, g25, g10, hv']
    rw [e1]; clear e1 hv
    go_enter Try.func80, Try.ntmps80
    go_wp2_with (go_at_call 70; refine (elem_any _ _).mono ?_; rintro e w1 ⟨rfl, hb1⟩; obtain ⟨hc1, hf1, hl1⟩ := bcell hb1; (try simp only [zdz] at hc1 hf1 hl1); have hz1 := hb1.size; (try simp only [zsz] at hz1); (try have g0 : w.heap.size < w1.heap.size := by omega); (try have g1 : w.heap.size + 1 < w1.heap.size := by omega); (try have g2 : w.heap.size + 2 < w1.heap.size := by omega); (try have gb : b < w1.heap.size := by omega); (try have g3 : w.heap.size + 3 < w1.heap.size := by omega); (try have hbb : Below w.heap.size w w1 := zw); (try obtain ⟨hco, hfo, _⟩ := bcell hbb); (try have hb1 := hb1))
    go_returns
    exact ⟨rfl, by exact zw⟩
set_option maxHeartbeats 2000000 in
theorem dbegins_any (p q t k a : Int) (w : World) (h1 : 0 ≤ a) (h2 : a ≤ 1073741824) (h3 : 0 ≤ k) (h4 : k ≤ 9) :
    Calls Try.prog 97 #[.agg #[.int .i64 p, .int .i64 q, .int .i64 t, .int .i64 k], .int .i64 a] w fun e w' => e = .returned (.int .i64 (beginsV t k a)) ∧ Below w.heap.size w w' := by
  by_cases t9 : t = 9
  · subst t9
    have e1 : beginsV 9 k a = a - 3 * k := by simp [beginsV]
    rw [e1]; clear e1
    go_enter Try.func97, Try.ntmps97
    go_wp2_with (go_at_call 70; refine (elem_any _ _).mono ?_; rintro e w1 ⟨rfl, hb1⟩; obtain ⟨hc1, hf1, hl1⟩ := bcell hb1; (try simp only [zdz] at hc1 hf1 hl1); have hz1 := hb1.size; (try simp only [zsz] at hz1); (try have g0 : w.heap.size < w1.heap.size := by omega); (try have g1 : w.heap.size + 1 < w1.heap.size := by omega); (try have g2 : w.heap.size + 2 < w1.heap.size := by omega); (try have gb : b < w1.heap.size := by omega); (try have g3 : w.heap.size + 3 < w1.heap.size := by omega); (try have hbb : Below w.heap.size w w1 := zw); (try obtain ⟨hco, hfo, _⟩ := bcell hbb); (try have hb1 := hb1))
    go_returns
    exact ⟨rfl, by exact zw⟩
  have g9 : (t == 9) = false := by simpa using t9
  by_cases t5 : t = 5
  · subst t5
    have e1 : beginsV 5 k a = a - k := by simp [beginsV]
    rw [e1]; clear e1
    go_enter Try.func97, Try.ntmps97
    go_wp2_with (go_at_call 70; refine (elem_any _ _).mono ?_; rintro e w1 ⟨rfl, hb1⟩; obtain ⟨hc1, hf1, hl1⟩ := bcell hb1; (try simp only [zdz] at hc1 hf1 hl1); have hz1 := hb1.size; (try simp only [zsz] at hz1); (try have g0 : w.heap.size < w1.heap.size := by omega); (try have g1 : w.heap.size + 1 < w1.heap.size := by omega); (try have g2 : w.heap.size + 2 < w1.heap.size := by omega); (try have gb : b < w1.heap.size := by omega); (try have g3 : w.heap.size + 3 < w1.heap.size := by omega); (try have hbb : Below w.heap.size w w1 := zw); (try obtain ⟨hco, hfo, _⟩ := bcell hbb); (try have hb1 := hb1))
    go_returns
    exact ⟨rfl, by exact zw⟩
  have g5 : (t == 5) = false := by simpa using t5
  by_cases t25 : t = 25
  · subst t25
    have e1 : beginsV 25 k a = a - k := by simp [beginsV]
    rw [e1]; clear e1
    go_enter Try.func97, Try.ntmps97
    go_wp2_with (go_at_call 70; refine (elem_any _ _).mono ?_; rintro e w1 ⟨rfl, hb1⟩; obtain ⟨hc1, hf1, hl1⟩ := bcell hb1; (try simp only [zdz] at hc1 hf1 hl1); have hz1 := hb1.size; (try simp only [zsz] at hz1); (try have g0 : w.heap.size < w1.heap.size := by omega); (try have g1 : w.heap.size + 1 < w1.heap.size := by omega); (try have g2 : w.heap.size + 2 < w1.heap.size := by omega); (try have gb : b < w1.heap.size := by omega); (try have g3 : w.heap.size + 3 < w1.heap.size := by omega); (try have hbb : Below w.heap.size w w1 := zw); (try obtain ⟨hco, hfo, _⟩ := bcell hbb); (try have hb1 := hb1))
    go_returns
    exact ⟨rfl, by exact zw⟩
  have g25 : (t == 25) = false := by simpa using t25
  by_cases t10 : t = 10
  · subst t10
    have e1 : beginsV 10 k a = a - k := by simp [beginsV]
    rw [e1]; clear e1
    go_enter Try.func97, Try.ntmps97
    go_wp2_with (go_at_call 70; refine (elem_any _ _).mono ?_; rintro e w1 ⟨rfl, hb1⟩; obtain ⟨hc1, hf1, hl1⟩ := bcell hb1; (try simp only [zdz] at hc1 hf1 hl1); have hz1 := hb1.size; (try simp only [zsz] at hz1); (try have g0 : w.heap.size < w1.heap.size := by omega); (try have g1 : w.heap.size + 1 < w1.heap.size := by omega); (try have g2 : w.heap.size + 2 < w1.heap.size := by omega); (try have gb : b < w1.heap.size := by omega); (try have g3 : w.heap.size + 3 < w1.heap.size := by omega); (try have hbb : Below w.heap.size w w1 := zw); (try obtain ⟨hco, hfo, _⟩ := bcell hbb); (try have hb1 := hb1))
    go_returns
    exact ⟨rfl, by exact zw⟩
  have g10 : (t == 10) = false := by simpa using t10
  clear t9 t5 t25 t10
  by_cases hv : vecB t = true
  · by_cases hm : manyOf t = 0
    · have gm : (manyOf t == 0) = true := by simpa using hm
      have e1 : beginsV t k a = a - k := by simp [beginsV, g9, g5, g25, g10, hv, gm]
      rw [e1]; clear e1 hm
      go_enter Try.func97, Try.ntmps97
      go_wp2_with (go_at_call 70; refine (elem_any _ _).mono ?_; rintro e w1 ⟨rfl, hb1⟩; obtain ⟨hc1, hf1, hl1⟩ := bcell hb1; (try simp only [zdz] at hc1 hf1 hl1); have hz1 := hb1.size; (try simp only [zsz] at hz1); (try have g0 : w.heap.size < w1.heap.size := by omega); (try have g1 : w.heap.size + 1 < w1.heap.size := by omega); (try have g2 : w.heap.size + 2 < w1.heap.size := by omega); (try have gb : b < w1.heap.size := by omega); (try have g3 : w.heap.size + 3 < w1.heap.size := by omega); (try have hbb : Below w.heap.size w w1 := zw); (try obtain ⟨hco, hfo, _⟩ := bcell hbb); (try have hb1 := hb1))
      go_returns
      exact ⟨rfl, by exact zw⟩
    · have gm : (manyOf t == 0) = false := by simpa using hm
      have e1 : beginsV t k a = a := by simp [beginsV, g9, g5, g25, g10, hv, gm]
      rw [e1]; clear e1 hm
      go_enter Try.func97, Try.ntmps97
      go_wp2_with (go_at_call 70; refine (elem_any _ _).mono ?_; rintro e w1 ⟨rfl, hb1⟩; obtain ⟨hc1, hf1, hl1⟩ := bcell hb1; (try simp only [zdz] at hc1 hf1 hl1); have hz1 := hb1.size; (try simp only [zsz] at hz1); (try have g0 : w.heap.size < w1.heap.size := by omega); (try have g1 : w.heap.size + 1 < w1.heap.size := by omega); (try have g2 : w.heap.size + 2 < w1.heap.size := by omega); (try have gb : b < w1.heap.size := by omega); (try have g3 : w.heap.size + 3 < w1.heap.size := by omega); (try have hbb : Below w.heap.size w w1 := zw); (try obtain ⟨hco, hfo, _⟩ := bcell hbb); (try have hb1 := hb1))
      go_returns
      exact ⟨rfl, by exact zw⟩
  · have hv' : vecB t = false := by simpa using hv
    have e1 : beginsV t k a = a := by simp [beginsV, g9, g5, g25, g10, hv']
    rw [e1]; clear e1 hv
    go_enter Try.func97, Try.ntmps97
    go_wp2_with (go_at_call 70; refine (elem_any _ _).mono ?_; rintro e w1 ⟨rfl, hb1⟩; obtain ⟨hc1, hf1, hl1⟩ := bcell hb1; (try simp only [zdz] at hc1 hf1 hl1); have hz1 := hb1.size; (try simp only [zsz] at hz1); (try have g0 : w.heap.size < w1.heap.size := by omega); (try have g1 : w.heap.size + 1 < w1.heap.size := by omega); (try have g2 : w.heap.size + 2 < w1.heap.size := by omega); (try have gb : b < w1.heap.size := by omega); (try have g3 : w.heap.size + 3 < w1.heap.size := by omega); (try have hbb : Below w.heap.size w w1 := zw); (try obtain ⟨hco, hfo, _⟩ := bcell hbb); (try have hb1 := hb1))
    go_returns
    exact ⟨rfl, by exact zw⟩
end
end Go.Proofs.Ytmpflnlajakibaa
