/- The walk of decode.readers. The walks of decode.walker's readers of leaves. -/
import Derived.Test.YtmpflnlajakibaaC7
import Derived.Test.YtmpflnlajakibaaIn
import Derived.Test.YtmpflnlajakibaaC12
import Derived.Deep.RegionHeld3
namespace Go.Proofs.Ytmpflnlajakibaa
set_option linter.unusedVariables false
set_option linter.unusedSimpArgs false
set_option linter.unusedSectionVars false
section
open Go.RowKit
open Go.ChangeMaps (setBlock)
theorem ins_at {P : Program} (T K E : TypeId) (kk : IntKind) (hT : P.underlying T = some (.map K E)) (hK : P.underlying K = some (.int kk)) (w : World) (g : Nat) (es : Array MapEntry) (clock : Nat) (n : Int) (val : Value)
    (hg : w.heap[g]? = some (.map es clock)) (hf : Instr.findNow (.int kk) (.int kk n) es.toList 0 = some none) :
    (Instr.mapUpdate T (.map (some g)) (.int kk n) val).run P w = .ok () (setBlock w g (.map (es.push ⟨.int kk n, val, clock⟩) (clock + 1))) := by
  have hc := fun e => MapKept.run_checkKey (P := P) (w := w) hK (k := .int kk n) (by simp [MapKept.IsKey]) e 9999
  simp [Instr.mapUpdate, run_underlying hT, MapKept.run_getObj_map hg, hc, MapKept.run_findKey hK hf, MapKept.run_setObj_map _ hg, Result.andThen]
  rfl
def drList : List (Int × Nat) := [(0, 98), (4, 99), (5, 99), (25, 100), (1, 101), (26, 101), (6, 101), (2, 102), (7, 102)]
def drE (m : Nat) : Array MapEntry := ((drList.take m).zipIdx.map fun x => ⟨.int .i64 x.1.1, fnS x.1.2, x.2⟩).toArray
theorem heap_set_same (w : World) (b : Nat) (o : Obj) (h : b < w.heap.size) : (setBlock w b o).heap[b]? = some o := by
  show (w.heap.setIfInBounds b o)[b]? = _
  rw [Array.getElem?_setIfInBounds_self_of_lt h]
theorem cell_set_other (w : World) (b : Nat) (o : Obj) (x : Nat) (j : Nat) (h : x ≠ b) : (setBlock w b o).cell? ⟨x, j, none⟩ = w.cell? ⟨x, j, none⟩ := World.cell?_of_block (a := ⟨x, j, none⟩) (heap_setBlock_other w b x o h)
theorem below_set {B : Nat} {a w : World} (h : Below B a w) {b : Nat} (hb : B ≤ b) (o : Obj) : Below B a (setBlock w b o) :=
  h.trans ⟨rfl, rfl, rfl, by rw [size_setBlock]; exact Nat.le_refl _, fun i hi => heap_setBlock_other _ _ _ _ (by omega)⟩
abbrev mtyD : TypeId := 115
abbrev ftyD : TypeId := 113
theorem heap_made_1 (w : World) (a b : Obj) : ((w.alloc a).alloc b).heap[w.heap.size]? = some a := ((((Below.refl (w.alloc a).heap.size (w.alloc a)).alloc (Nat.le_refl _) b).block _ (by simp)).trans (heap_alloc_new _ _))
theorem ins_d (w : World) (g m : Nat) (n : Int) (f : Nat) (hg : w.heap[g]? = some (.map (drE m) m)) (hm : drList[m]? = some (n, f)) (hf : Instr.findNow (.int .i64) (.int .i64 n) (drE m).toList 0 = some none) (he : (drE m).push ⟨.int .i64 n, fnS f, m⟩ = drE (m + 1)) :
    (Instr.mapUpdate mtyD (.map (some g)) (.int .i64 n) (fnS f)).run Try.prog w = .ok () (setBlock w g (.map (drE (m + 1)) (m + 1))) := by
  rw [ins_at mtyD 3 ftyD .i64 Try.underlying115 Try.underlying3 w g (drE m) m n (fnS f) hg hf, he]
set_option maxRecDepth 100000 in
set_option maxHeartbeats 2000000 in
theorem dreaders_any (w : World) : Calls Try.prog 66 #[] w fun e w' => e = .returned (.map (some w.heap.size)) ∧ Below w.heap.size w w' ∧ w'.heap[w.heap.size]? = some (.map (drE 9) 9) := by
  have hmm := @run_makeMap Try.prog
  have ins := fun (es : Array MapEntry) (clock : Nat) (n : Int) (val : Value) (hf : Instr.findNow (.int .i64) (.int .i64 n) es.toList 0 = some none) => ins_lit (P := Try.prog) mtyD 3 ftyD .i64 Try.underlying115 Try.underlying3 w es clock n val hf
  have i0 : (Instr.mapUpdate mtyD (.map (some w.heap.size)) (.int .i64 0) (.func (.func 98) #[] #[])).run Try.prog (w.alloc (.map #[] 0)) = .ok () (w.alloc (.map (drE 1) 1)) := ins #[] 0 0 _ rfl
  have i1 : (Instr.mapUpdate mtyD (.map (some w.heap.size)) (.int .i64 4) (.func (.func 99) #[] #[])).run Try.prog (w.alloc (.map (drE 1) 1)) = .ok () (w.alloc (.map (drE 2) 2)) := ins (drE 1) 1 4 _ rfl
  have i2 : (Instr.mapUpdate mtyD (.map (some w.heap.size)) (.int .i64 5) (.func (.func 99) #[] #[])).run Try.prog (w.alloc (.map (drE 2) 2)) = .ok () (w.alloc (.map (drE 3) 3)) := ins (drE 2) 2 5 _ rfl
  have i3 : (Instr.mapUpdate mtyD (.map (some w.heap.size)) (.int .i64 25) (.func (.func 100) #[] #[])).run Try.prog (w.alloc (.map (drE 3) 3)) = .ok () (w.alloc (.map (drE 4) 4)) := ins (drE 3) 3 25 _ rfl
  clear ins
  go_enter Try.func66, Try.ntmps66
  go_wp2
  clear i0 i1 i2 i3 hmm
  go_loopw [10] (fun i wr => ∃ j : Nat, j ≤ 3 ∧ i = .int .i64 j ∧ Below w.heap.size w wr ∧ w.heap.size + 1 < wr.heap.size ∧ wr.heap[w.heap.size]? = some (.map (drE (4 + j)) (4 + j)) ∧
    wr.cell? ⟨w.heap.size + 1, 0, none⟩ = some (.int .i64 1) ∧ wr.cell? ⟨w.heap.size + 1, 1, none⟩ = some (.int .i64 26) ∧ wr.cell? ⟨w.heap.size + 1, 2, none⟩ = some (.int .i64 6)) (fun i _ => 3 - (intOf i).toNat)
  case atStart => exact ⟨0, by omega, rfl, by exact zw, by simp, heap_made_1 _ _ _, by go_simp, by go_simp, by go_simp⟩
  case round =>
    obtain ⟨wa, rfl⟩ : ∃ x, x = wr := ⟨_, rfl⟩
    obtain ⟨j, hj, rfl, hb, hz, hg, c0, c1, c2⟩ := hrel
    have hu : ∀ n f, drList[4 + j]? = some (n, f) → Instr.findNow (.int .i64) (.int .i64 n) (drE (4 + j)).toList 0 = some none → (drE (4 + j)).push ⟨.int .i64 n, fnS f, 4 + j⟩ = drE (4 + j + 1) →
      (Instr.mapUpdate mtyD (.map (some w.heap.size)) (.int .i64 n) (.func (.func f) #[] #[])).run Try.prog wa = .ok () (setBlock wa w.heap.size (.map (drE (4 + j + 1)) (4 + j + 1))) := fun n f h1 h2 h3 => ins_d wa w.heap.size (4 + j) n f hg h1 h2 h3
    have hgl : w.heap.size < wa.heap.size := by omega
    have hrel' : ∀ n, Below w.heap.size w (setBlock wa w.heap.size (.map (drE n) n)) ∧ w.heap.size + 1 < (setBlock wa w.heap.size (.map (drE n) n)).heap.size ∧ (setBlock wa w.heap.size (.map (drE n) n)).heap[w.heap.size]? = some (.map (drE n) n) ∧
        (setBlock wa w.heap.size (.map (drE n) n)).cell? ⟨w.heap.size + 1, 0, none⟩ = some (.int .i64 1) ∧ (setBlock wa w.heap.size (.map (drE n) n)).cell? ⟨w.heap.size + 1, 1, none⟩ = some (.int .i64 26) ∧ (setBlock wa w.heap.size (.map (drE n) n)).cell? ⟨w.heap.size + 1, 2, none⟩ = some (.int .i64 6) := fun n =>
      ⟨below_set hb (Nat.le_refl _) _, by rw [size_setBlock]; exact hz, heap_set_same _ _ _ hgl, (cell_set_other _ _ _ _ _ (by omega)).trans c0, (cell_set_other _ _ _ _ _ (by omega)).trans c1, (cell_set_other _ _ _ _ _ (by omega)).trans c2⟩
    have HR := Lib.hid hrel'
    clear hrel'
    have : j = 0 ∨ j = 1 ∨ j = 2 ∨ j = 3 := by omega
    rcases this with rfl | rfl | rfl | rfl
    · have hup := hu 1 _ rfl rfl rfl
      clear hu
      go_wp2
      go_roundw
      case rel => exact ⟨1, by omega, rfl, HR.out 5⟩
      case measure => simp only [intOf]; omega
    · have hup := hu 26 _ rfl rfl rfl
      clear hu
      go_wp2
      go_roundw
      case rel => exact ⟨2, by omega, rfl, HR.out 6⟩
      case measure => simp only [intOf]; omega
    · have hup := hu 6 _ rfl rfl rfl
      clear hu
      go_wp2
      go_roundw
      case rel => exact ⟨3, by omega, rfl, HR.out 7⟩
      case measure => simp only [intOf]; omega
    · clear hu
      go_wp2
      clear HR
      go_loopw [19] (fun i wy => ∃ j : Nat, j ≤ 2 ∧ i = .int .i64 j ∧ Below w.heap.size w wy ∧ wa.heap.size < wy.heap.size ∧ wy.heap[w.heap.size]? = some (.map (drE (7 + j)) (7 + j)) ∧
        wy.cell? ⟨wa.heap.size, 0, none⟩ = some (.int .i64 2) ∧ wy.cell? ⟨wa.heap.size, 1, none⟩ = some (.int .i64 7)) (fun i _ => 2 - (intOf i).toNat)
      case atStart => exact ⟨0, by omega, rfl, hb.alloc (by omega) _, by simp, (((Below.refl wa.heap.size wa).alloc (Nat.le_refl _) _).block _ hgl).trans hg, by go_simp, by go_simp⟩
      case round =>
        clear hb hz hg c0 c1 c2 hj
        obtain ⟨j, hj, rfl, hb, hz, hg, c0, c1⟩ := hrel
        have hu : ∀ n f, drList[7 + j]? = some (n, f) → Instr.findNow (.int .i64) (.int .i64 n) (drE (7 + j)).toList 0 = some none → (drE (7 + j)).push ⟨.int .i64 n, fnS f, 7 + j⟩ = drE (7 + j + 1) →
          (Instr.mapUpdate mtyD (.map (some w.heap.size)) (.int .i64 n) (.func (.func f) #[] #[])).run Try.prog wr = .ok () (setBlock wr w.heap.size (.map (drE (7 + j + 1)) (7 + j + 1))) := fun n f h1 h2 h3 => ins_d wr w.heap.size (7 + j) n f hg h1 h2 h3
        have hgy : w.heap.size < wr.heap.size := by omega
        have hrel' : ∀ n, Below w.heap.size w (setBlock wr w.heap.size (.map (drE n) n)) ∧ wa.heap.size < (setBlock wr w.heap.size (.map (drE n) n)).heap.size ∧ (setBlock wr w.heap.size (.map (drE n) n)).heap[w.heap.size]? = some (.map (drE n) n) ∧
            (setBlock wr w.heap.size (.map (drE n) n)).cell? ⟨wa.heap.size, 0, none⟩ = some (.int .i64 2) ∧ (setBlock wr w.heap.size (.map (drE n) n)).cell? ⟨wa.heap.size, 1, none⟩ = some (.int .i64 7) := fun n =>
          ⟨below_set hb (Nat.le_refl _) _, by rw [size_setBlock]; exact hz, heap_set_same _ _ _ hgy, (cell_set_other _ _ _ _ _ (by omega)).trans c0, (cell_set_other _ _ _ _ _ (by omega)).trans c1⟩
        have HR := Lib.hid hrel'
        clear hrel'
        have : j = 0 ∨ j = 1 ∨ j = 2 := by omega
        rcases this with rfl | rfl | rfl
        · have hup := hu 2 _ rfl rfl rfl
          clear hu
          go_wp2
          go_roundw
          case rel => exact ⟨1, by omega, rfl, HR.out 8⟩
          case measure => simp only [intOf]; omega
        · have hup := hu 7 _ rfl rfl rfl
          clear hu
          go_wp2
          go_roundw
          case rel => exact ⟨2, by omega, rfl, HR.out 9⟩
          case measure => simp only [intOf]; omega
        · clear hu
          go_wp2
          go_returns
          exact ⟨rfl, hb, hg⟩
/-- The lookup of a reader. -/
def drIs (t : Int) : Bool := t == 0 || t == 4 || t == 5 || t == 25 || t == 1 || t == 26 || t == 6 || t == 2 || t == 7
def drFn (t : Int) : Value := if t == 0 then fnS 98 else if t == 4 || t == 5 then fnS 99 else if t == 25 then fnS 100 else if t == 1 || t == 6 || t == 26 then fnS 101 else if t == 2 || t == 7 then fnS 102 else .nilFunc
theorem zero_dr (w : World) : (zeroValue ftyD).run Try.prog w = .ok .nilFunc w := by kernel_rfl
theorem look_dr (t : Int) (h0 : 0 ≤ t) (h1 : t < 37) (w : World) (g : Nat) (hg : w.heap[g]? = some (.map (drE 9) 9)) : (Instr.lookup mtyD (.map (some g)) (.int .i64 t) true).run Try.prog w = .ok (.tuple #[drFn t, .bool (drIs t)]) w := by
  have key := fun (r : Option (Nat × Value)) (hf : Instr.findNow (.int .i64) (.int .i64 t) (drE 9).toList 0 = some r) => look_lit (P := Try.prog) mtyD 3 ftyD .i64 Try.underlying115 Try.underlying3 w g (drE 9) 9 t r true hg .nilFunc (zero_dr _) hf
  have h37 : t = 0 ∨ t = 1 ∨ t = 2 ∨ t = 3 ∨ t = 4 ∨ t = 5 ∨ t = 6 ∨ t = 7 ∨ t = 8 ∨ t = 9 ∨ t = 10 ∨ t = 11 ∨ t = 12 ∨ t = 13 ∨ t = 14 ∨ t = 15 ∨ t = 16 ∨ t = 17 ∨ t = 18 ∨ t = 19 ∨ t = 20 ∨ t = 21 ∨ t = 22 ∨ t = 23 ∨ t = 24 ∨ t = 25 ∨ t = 26 ∨ t = 27 ∨ t = 28 ∨ t = 29 ∨ t = 30 ∨ t = 31 ∨ t = 32 ∨ t = 33 ∨ t = 34 ∨ t = 35 ∨ t = 36 := by omega
  rcases h37 with rfl | rfl | rfl | rfl | rfl | rfl | rfl | rfl | rfl | rfl | rfl | rfl | rfl | rfl | rfl | rfl | rfl | rfl | rfl | rfl | rfl | rfl | rfl | rfl | rfl | rfl | rfl | rfl | rfl | rfl | rfl | rfl | rfl | rfl | rfl | rfl | rfl
  all_goals (exact key _ rfl)
end
section
open Go.RowKit
theorem heap_made_2 (w : World) (a b : Obj) : ((w.alloc a).alloc b).heap[w.heap.size + 1]? = some b := by
  have := heap_alloc_new (w.alloc a) b
  rwa [World.size_alloc] at this
/-- What a reader of a leaf leaves. -/
def LfPost (w : World) (lk b o n cap : Nat) (D : List UInt8) (dp fu a0 a e nn u : Int) (s : List UInt8) (en : Ending) (w' : World) : Prop :=
  en = .returned (.agg #[.int .i64 0, .int .i64 nn, .int .u64 u, strV s, .slice none 0 0, .slice none 0 0]) ∧ DSt 76 w' lk b o n cap D dp fu (tellA 0 a0 a) (tellE 0 e) ∧ Touch [lk] w w'
abbrev plcV (p q t k a d : Int) : Value := .agg #[.int .i64 p, .int .i64 q, .int .i64 t, .int .i64 k, .int .i64 a, .int .i64 d]
section
variable {w : World} {lk b o n cap : Nat} {D : List UInt8} {dp fu a0 : Int}
theorem dnull (h : DSt 76 w lk b o n cap D dp fu a0 0) (p q t k a d : Int) :
    Calls Try.prog 98 #[.pointer (some ⟨lk, 0, none⟩), plcV p q t k a d] w fun en w' =>
      en = .returned (.agg #[.int .i64 0, .int .i64 0, .int .u64 0, strV [], .slice none 0 0, .slice none 0 0]) ∧ DSt 76 w' lk b o n cap D dp fu a0 0 ∧ Touch [lk] w w' := by
  have hlow := h.low
  go_enter Try.func98, Try.ntmps98
  go_wp2
  (refine bodyPost_ret (v := .agg #[.int .i64 0, .int .i64 0, .int .u64 0, .string ⟨#[]⟩, .slice none 0 0, .slice none 0 0]) (by simp [results, Try.results98, go_sem, *]) rfl ?_)
  exact ⟨rfl, h.keep hlow zw (Nat.le_refl _), Touch.quiet zw⟩
set_option maxHeartbeats 4000000 in
theorem dsigned (h : DSt 76 w lk b o n cap D dp fu a0 0) (p q t k a d : Int) (ht : t = 1 ∨ t = 6 ∨ t = 26) :
    Calls Try.prog 101 #[.pointer (some ⟨lk, 0, none⟩), plcV p q t k a d] w (LfPost w lk b o n cap D dp fu a0 a (splaceE D p q t k) (intV D p q t k) 0 []) := by
  have hlow := h.low
  have hD := h.doc
  have hbw := hlow.b
  have hlw := hlow.l
  have c0 := h.c0
  have HI := Lib.hid (fun W (hW : Doc W b o n cap D) => sint_any b o n cap D W p q t k hW ht)
  generalize splaceE D p q t k = E at *; generalize intV D p q t k = v at *; clear ht
  go_enter Try.func101, Try.ntmps101
  go_upto_region 1 with fail
  refine wp_named (fun wn => Below w.heap.size w wn ∧ w.heap.size + 1 < wn.heap.size ∧ wn.cell? ⟨w.heap.size, 0, none⟩ = some (.int .i64 p) ∧ wn.cell? ⟨w.heap.size, 1, none⟩ = some (.int .i64 q) ∧ wn.cell? ⟨w.heap.size, 2, none⟩ = some (.int .i64 t) ∧ wn.cell? ⟨w.heap.size, 3, none⟩ = some (.int .i64 k) ∧ wn.cell? ⟨w.heap.size, 4, none⟩ = some (.int .i64 a) ∧ wn.cell? ⟨lk, 0, none⟩ = some (.slice (some ⟨b, o, none⟩) n cap) ∧ wn.heap[w.heap.size + 1]? = some (.cells #[.int .i64 0, .int .i64 0, .int .u64 0, .string ⟨#[]⟩, .slice none 0 0, .slice none 0 0] 44 (0, 0))) ⟨by exact zw, by simp, by go_simp, by go_simp, by go_simp, by go_simp, by go_simp, by go_simp, heap_made_2 _ _ _⟩ ?_
  rintro wn ⟨hbn, hX, z0, z1, z2, z3, z4, z5, hz⟩
  have hDn := hD.below hbn
  have hKn := h.keep hlow hbn (Nat.le_refl _)
  have gln : lk < wn.heap.size := hKn.lkt
  have hX0 : w.heap.size < wn.heap.size := by omega
  have hz' := Lib.hid hz
  clear hz
  go_region_held3 (fun w' => w'.cell? ⟨w.heap.size, 0, none⟩ = some (.int .i64 p) ∧ w'.cell? ⟨w.heap.size, 1, none⟩ = some (.int .i64 q) ∧ w'.cell? ⟨w.heap.size, 2, none⟩ = some (.int .i64 t) ∧ w'.cell? ⟨w.heap.size, 3, none⟩ = some (.int .i64 k) ∧ w'.cell? ⟨w.heap.size, 4, none⟩ = some (.int .i64 a) ∧ w'.cell? ⟨lk, 0, none⟩ = some (.slice (some ⟨b, o, none⟩) n cap)) (first | (with_reducible exact ⟨z0, z1, z2, z3, z4, z5⟩) | (refine ⟨?_, ?_, ?_, ?_, ?_, ?_⟩ <;> go_keep)) ((go_at_call 123; refine (HI.out _ (hDn.below zw)).mono ?_; rintro e w1 ⟨rfl, hb1⟩; obtain ⟨hc1, hf1, hl1⟩ := bcell hb1; (try simp only [zdz] at hc1 hf1 hl1); have hz1 := hb1.size; (try simp only [zsz] at hz1); (try have g0 : w.heap.size < w1.heap.size := by omega); (try have g1 : w.heap.size + 1 < w1.heap.size := by omega); (try have gl : lk < w1.heap.size := by omega)))
  go_upto_region 2 with fail
  refine wp_named (fun wx => Below wn.heap.size wn wx ∧ wx.cell? ⟨w.heap.size, 4, none⟩ = some (.int .i64 a)) ⟨by exact zw, by go_simp⟩ ?_
  rintro wx ⟨hbx, y4⟩
  have hzx := (hbx.block _ hX).trans hz'.out
  have hKx := hKn.keep hKn.low hbx (Nat.le_refl _)
  have gX : w.heap.size + 1 < wx.heap.size := Nat.lt_of_lt_of_le hX hbx.size
  have hwx : Below w.heap.size w wx := hbn.trans (hbx.mono hbn.size)
  clear z0 z1 z2 z3 z4 z5 hz' hbn hDn hKn hbx HI
  go_upto_region 3 with (go_at_call 64; refine (dtell hKx a _).mono ?_; rintro e w1 ⟨rfl, hv1, ht1⟩)
  have hzz := (ht1.block _ gX (by simp; omega)).trans hzx
  have hs1 := ht1.size
  have gX1 : w.heap.size + 1 < w1.heap.size := by omega
  have hfz := fun (j : Nat) => frozen_of_row _ _ j _ _ hzz
  have n0 : w1.cell? ⟨w.heap.size + 1, 0, none⟩ = some (.int .i64 0) := cell_of_row _ _ _ _ _ _ hzz
  have n1 : w1.cell? ⟨w.heap.size + 1, 1, none⟩ = some (.int .i64 0) := cell_of_row _ _ _ _ _ _ hzz
  have n2 : w1.cell? ⟨w.heap.size + 1, 2, none⟩ = some (.int .u64 0) := cell_of_row _ _ _ _ _ _ hzz
  have n3 : w1.cell? ⟨w.heap.size + 1, 3, none⟩ = some (.string ⟨#[]⟩) := cell_of_row _ _ _ _ _ _ hzz
  have n4 : w1.cell? ⟨w.heap.size + 1, 4, none⟩ = some (.slice none 0 0) := cell_of_row _ _ _ _ _ _ hzz
  have n5 : w1.cell? ⟨w.heap.size + 1, 5, none⟩ = some (.slice none 0 0) := cell_of_row _ _ _ _ _ _ hzz
  go_wp2
  have hlow1 : DLow (w.heap.size + 1) lk b := hlow.mono (by omega)
  refine bodyPost_ret (v := .agg #[.int .i64 0, .int .i64 v, .int .u64 0, .string ⟨#[]⟩, .slice none 0 0, .slice none 0 0]) (by simp [results, Try.results101, go_sem, *]) rfl ?_
  refine ⟨rfl, hv1.keep (B := w.heap.size + 1) hlow1 zw (by omega), Tch.touch (Tch.trans (Below.tch hwx) (Tch.trans (ht1.tch (by omega)) (by (repeat' first | (with_reducible first | exact Tch.refl _ _ _ | assumption | refine Tch.alloc ?_ ?_ _ | refine Tch.drew ?_ | refine Tch.drewN ?_ _ | refine Tch.setCell ?_ ?_ _ | refine Tch.setBlock ?_ (by simp) _ | refine tch_call (by assumption) ?_ ?_ | refine tch_below (by assumption) ?_ ?_ | exact zb6 _) | omega | (simp only [zsz, size_setBlock]; omega) | (simp; omega)))))⟩
set_option maxHeartbeats 4000000 in
theorem dunsigned (h : DSt 76 w lk b o n cap D dp fu a0 0) (p q t k a d : Int) (ht : t = 2 ∨ t = 7) :
    Calls Try.prog 102 #[.pointer (some ⟨lk, 0, none⟩), plcV p q t k a d] w (LfPost w lk b o n cap D dp fu a0 a (splaceE D p q t k) 0 (uintV D p q t k) []) := by
  have hlow := h.low
  have hD := h.doc
  have hbw := hlow.b
  have hlw := hlow.l
  have c0 := h.c0
  have HI := Lib.hid (fun W (hW : Doc W b o n cap D) => suint_any b o n cap D W p q t k hW ht)
  generalize splaceE D p q t k = E at *; generalize uintV D p q t k = v at *; clear ht
  go_enter Try.func102, Try.ntmps102
  go_upto_region 1 with fail
  refine wp_named (fun wn => Below w.heap.size w wn ∧ w.heap.size + 1 < wn.heap.size ∧ wn.cell? ⟨w.heap.size, 0, none⟩ = some (.int .i64 p) ∧ wn.cell? ⟨w.heap.size, 1, none⟩ = some (.int .i64 q) ∧ wn.cell? ⟨w.heap.size, 2, none⟩ = some (.int .i64 t) ∧ wn.cell? ⟨w.heap.size, 3, none⟩ = some (.int .i64 k) ∧ wn.cell? ⟨w.heap.size, 4, none⟩ = some (.int .i64 a) ∧ wn.cell? ⟨lk, 0, none⟩ = some (.slice (some ⟨b, o, none⟩) n cap) ∧ wn.heap[w.heap.size + 1]? = some (.cells #[.int .i64 0, .int .i64 0, .int .u64 0, .string ⟨#[]⟩, .slice none 0 0, .slice none 0 0] 44 (0, 0))) ⟨by exact zw, by simp, by go_simp, by go_simp, by go_simp, by go_simp, by go_simp, by go_simp, heap_made_2 _ _ _⟩ ?_
  rintro wn ⟨hbn, hX, z0, z1, z2, z3, z4, z5, hz⟩
  have hDn := hD.below hbn
  have hKn := h.keep hlow hbn (Nat.le_refl _)
  have gln : lk < wn.heap.size := hKn.lkt
  have hX0 : w.heap.size < wn.heap.size := by omega
  have hz' := Lib.hid hz
  clear hz
  go_region_held3 (fun w' => w'.cell? ⟨w.heap.size, 0, none⟩ = some (.int .i64 p) ∧ w'.cell? ⟨w.heap.size, 1, none⟩ = some (.int .i64 q) ∧ w'.cell? ⟨w.heap.size, 2, none⟩ = some (.int .i64 t) ∧ w'.cell? ⟨w.heap.size, 3, none⟩ = some (.int .i64 k) ∧ w'.cell? ⟨w.heap.size, 4, none⟩ = some (.int .i64 a) ∧ w'.cell? ⟨lk, 0, none⟩ = some (.slice (some ⟨b, o, none⟩) n cap)) (first | (with_reducible exact ⟨z0, z1, z2, z3, z4, z5⟩) | (refine ⟨?_, ?_, ?_, ?_, ?_, ?_⟩ <;> go_keep)) ((go_at_call 124; refine (HI.out _ (hDn.below zw)).mono ?_; rintro e w1 ⟨rfl, hb1⟩; obtain ⟨hc1, hf1, hl1⟩ := bcell hb1; (try simp only [zdz] at hc1 hf1 hl1); have hz1 := hb1.size; (try simp only [zsz] at hz1); (try have g0 : w.heap.size < w1.heap.size := by omega); (try have g1 : w.heap.size + 1 < w1.heap.size := by omega); (try have gl : lk < w1.heap.size := by omega)))
  go_upto_region 2 with fail
  refine wp_named (fun wx => Below wn.heap.size wn wx ∧ wx.cell? ⟨w.heap.size, 4, none⟩ = some (.int .i64 a)) ⟨by exact zw, by go_simp⟩ ?_
  rintro wx ⟨hbx, y4⟩
  have hzx := (hbx.block _ hX).trans hz'.out
  have hKx := hKn.keep hKn.low hbx (Nat.le_refl _)
  have gX : w.heap.size + 1 < wx.heap.size := Nat.lt_of_lt_of_le hX hbx.size
  have hwx : Below w.heap.size w wx := hbn.trans (hbx.mono hbn.size)
  clear z0 z1 z2 z3 z4 z5 hz' hbn hDn hKn hbx HI
  go_upto_region 3 with (go_at_call 64; refine (dtell hKx a _).mono ?_; rintro e w1 ⟨rfl, hv1, ht1⟩)
  have hzz := (ht1.block _ gX (by simp; omega)).trans hzx
  have hs1 := ht1.size
  have gX1 : w.heap.size + 1 < w1.heap.size := by omega
  have hfz := fun (j : Nat) => frozen_of_row _ _ j _ _ hzz
  have n0 : w1.cell? ⟨w.heap.size + 1, 0, none⟩ = some (.int .i64 0) := cell_of_row _ _ _ _ _ _ hzz
  have n1 : w1.cell? ⟨w.heap.size + 1, 1, none⟩ = some (.int .i64 0) := cell_of_row _ _ _ _ _ _ hzz
  have n2 : w1.cell? ⟨w.heap.size + 1, 2, none⟩ = some (.int .u64 0) := cell_of_row _ _ _ _ _ _ hzz
  have n3 : w1.cell? ⟨w.heap.size + 1, 3, none⟩ = some (.string ⟨#[]⟩) := cell_of_row _ _ _ _ _ _ hzz
  have n4 : w1.cell? ⟨w.heap.size + 1, 4, none⟩ = some (.slice none 0 0) := cell_of_row _ _ _ _ _ _ hzz
  have n5 : w1.cell? ⟨w.heap.size + 1, 5, none⟩ = some (.slice none 0 0) := cell_of_row _ _ _ _ _ _ hzz
  go_wp2
  have hlow1 : DLow (w.heap.size + 1) lk b := hlow.mono (by omega)
  refine bodyPost_ret (v := .agg #[.int .i64 0, .int .i64 0, .int .u64 v, .string ⟨#[]⟩, .slice none 0 0, .slice none 0 0]) (by simp [results, Try.results102, go_sem, *]) rfl ?_
  refine ⟨rfl, hv1.keep (B := w.heap.size + 1) hlow1 zw (by omega), Tch.touch (Tch.trans (Below.tch hwx) (Tch.trans (ht1.tch (by omega)) (by (repeat' first | (with_reducible first | exact Tch.refl _ _ _ | assumption | refine Tch.alloc ?_ ?_ _ | refine Tch.drew ?_ | refine Tch.drewN ?_ _ | refine Tch.setCell ?_ ?_ _ | refine Tch.setBlock ?_ (by simp) _ | refine tch_call (by assumption) ?_ ?_ | refine tch_below (by assumption) ?_ ?_ | exact zb6 _) | omega | (simp only [zsz, size_setBlock]; omega) | (simp; omega)))))⟩
set_option maxHeartbeats 4000000 in
theorem dtext (h : DSt 76 w lk b o n cap D dp fu a0 0) (p q t k a d : Int) (ht : t = 4 ∨ t = 5) :
    Calls Try.prog 99 #[.pointer (some ⟨lk, 0, none⟩), plcV p q t k a d] w (LfPost w lk b o n cap D dp fu a0 a (findE D p q t k true) 0 0 (findS D p q t k true)) := by
  have hlow := h.low
  have hD := h.doc
  have hbw := hlow.b
  have hlw := hlow.l
  have c0 := h.c0
  have HI := Lib.hid (fun W (hW : Doc W b o n cap D) => show Calls Try.prog 121 #[.slice (some ⟨b, o, none⟩) n cap, .agg #[.int .i64 p, .int .i64 q, .int .i64 t, .int .i64 k]] W fun e w' => e = .returned (.tuple #[.string ⟨(findS D p q t k true).toArray⟩, .int .i64 (findE D p q t k true)]) ∧ Below W.heap.size W w' from (show (t == 4 || t == 5) = true by rcases ht with rfl | rfl <;> rfl) ▸ ttext_any b o n cap D p q t k W hW)
  generalize findE D p q t k true = E at *; generalize findS D p q t k true = v at *; clear ht
  go_enter Try.func99, Try.ntmps99
  go_upto_region 1 with fail
  refine wp_named (fun wn => Below w.heap.size w wn ∧ w.heap.size + 1 < wn.heap.size ∧ wn.cell? ⟨w.heap.size, 0, none⟩ = some (.int .i64 p) ∧ wn.cell? ⟨w.heap.size, 1, none⟩ = some (.int .i64 q) ∧ wn.cell? ⟨w.heap.size, 2, none⟩ = some (.int .i64 t) ∧ wn.cell? ⟨w.heap.size, 3, none⟩ = some (.int .i64 k) ∧ wn.cell? ⟨w.heap.size, 4, none⟩ = some (.int .i64 a) ∧ wn.cell? ⟨lk, 0, none⟩ = some (.slice (some ⟨b, o, none⟩) n cap) ∧ wn.heap[w.heap.size + 1]? = some (.cells #[.int .i64 0, .int .i64 0, .int .u64 0, .string ⟨#[]⟩, .slice none 0 0, .slice none 0 0] 44 (0, 0))) ⟨by exact zw, by simp, by go_simp, by go_simp, by go_simp, by go_simp, by go_simp, by go_simp, heap_made_2 _ _ _⟩ ?_
  rintro wn ⟨hbn, hX, z0, z1, z2, z3, z4, z5, hz⟩
  have hDn := hD.below hbn
  have hKn := h.keep hlow hbn (Nat.le_refl _)
  have gln : lk < wn.heap.size := hKn.lkt
  have hX0 : w.heap.size < wn.heap.size := by omega
  have hz' := Lib.hid hz
  clear hz
  go_region_held3 (fun w' => w'.cell? ⟨w.heap.size, 0, none⟩ = some (.int .i64 p) ∧ w'.cell? ⟨w.heap.size, 1, none⟩ = some (.int .i64 q) ∧ w'.cell? ⟨w.heap.size, 2, none⟩ = some (.int .i64 t) ∧ w'.cell? ⟨w.heap.size, 3, none⟩ = some (.int .i64 k) ∧ w'.cell? ⟨w.heap.size, 4, none⟩ = some (.int .i64 a) ∧ w'.cell? ⟨lk, 0, none⟩ = some (.slice (some ⟨b, o, none⟩) n cap)) (first | (with_reducible exact ⟨z0, z1, z2, z3, z4, z5⟩) | (refine ⟨?_, ?_, ?_, ?_, ?_, ?_⟩ <;> go_keep)) ((go_at_call 121; refine (HI.out _ (hDn.below zw)).mono ?_; rintro e w1 ⟨rfl, hb1⟩; obtain ⟨hc1, hf1, hl1⟩ := bcell hb1; (try simp only [zdz] at hc1 hf1 hl1); have hz1 := hb1.size; (try simp only [zsz] at hz1); (try have g0 : w.heap.size < w1.heap.size := by omega); (try have g1 : w.heap.size + 1 < w1.heap.size := by omega); (try have gl : lk < w1.heap.size := by omega)))
  go_upto_region 2 with fail
  refine wp_named (fun wx => Below wn.heap.size wn wx ∧ wx.cell? ⟨w.heap.size, 4, none⟩ = some (.int .i64 a)) ⟨by exact zw, by go_simp⟩ ?_
  rintro wx ⟨hbx, y4⟩
  have hzx := (hbx.block _ hX).trans hz'.out
  have hKx := hKn.keep hKn.low hbx (Nat.le_refl _)
  have gX : w.heap.size + 1 < wx.heap.size := Nat.lt_of_lt_of_le hX hbx.size
  have hwx : Below w.heap.size w wx := hbn.trans (hbx.mono hbn.size)
  clear z0 z1 z2 z3 z4 z5 hz' hbn hDn hKn hbx HI
  go_upto_region 3 with (go_at_call 64; refine (dtell hKx a _).mono ?_; rintro e w1 ⟨rfl, hv1, ht1⟩)
  have hzz := (ht1.block _ gX (by simp; omega)).trans hzx
  have hs1 := ht1.size
  have gX1 : w.heap.size + 1 < w1.heap.size := by omega
  have hfz := fun (j : Nat) => frozen_of_row _ _ j _ _ hzz
  have n0 : w1.cell? ⟨w.heap.size + 1, 0, none⟩ = some (.int .i64 0) := cell_of_row _ _ _ _ _ _ hzz
  have n1 : w1.cell? ⟨w.heap.size + 1, 1, none⟩ = some (.int .i64 0) := cell_of_row _ _ _ _ _ _ hzz
  have n2 : w1.cell? ⟨w.heap.size + 1, 2, none⟩ = some (.int .u64 0) := cell_of_row _ _ _ _ _ _ hzz
  have n3 : w1.cell? ⟨w.heap.size + 1, 3, none⟩ = some (.string ⟨#[]⟩) := cell_of_row _ _ _ _ _ _ hzz
  have n4 : w1.cell? ⟨w.heap.size + 1, 4, none⟩ = some (.slice none 0 0) := cell_of_row _ _ _ _ _ _ hzz
  have n5 : w1.cell? ⟨w.heap.size + 1, 5, none⟩ = some (.slice none 0 0) := cell_of_row _ _ _ _ _ _ hzz
  go_wp2
  have hlow1 : DLow (w.heap.size + 1) lk b := hlow.mono (by omega)
  refine bodyPost_ret (v := .agg #[.int .i64 0, .int .i64 0, .int .u64 0, .string ⟨v.toArray⟩, .slice none 0 0, .slice none 0 0]) (by simp [results, Try.results99, go_sem, *]) rfl ?_
  refine ⟨rfl, hv1.keep (B := w.heap.size + 1) hlow1 zw (by omega), Tch.touch (Tch.trans (Below.tch hwx) (Tch.trans (ht1.tch (by omega)) (by (repeat' first | (with_reducible first | exact Tch.refl _ _ _ | assumption | refine Tch.alloc ?_ ?_ _ | refine Tch.drew ?_ | refine Tch.drewN ?_ _ | refine Tch.setCell ?_ ?_ _ | refine Tch.setBlock ?_ (by simp) _ | refine tch_call (by assumption) ?_ ?_ | refine tch_below (by assumption) ?_ ?_ | exact zb6 _) | omega | (simp only [zsz, size_setBlock]; omega) | (simp; omega)))))⟩
set_option maxHeartbeats 4000000 in
theorem dblob (h : DSt 76 w lk b o n cap D dp fu a0 0) (p q k a d : Int) :
    Calls Try.prog 100 #[.pointer (some ⟨lk, 0, none⟩), plcV p q 25 k a d] w (LfPost w lk b o n cap D dp fu a0 a (findE D p q 25 k true) 0 0 (findS D p q 25 k true)) := by
  have hlow := h.low
  have hD := h.doc
  have hbw := hlow.b
  have hlw := hlow.l
  have c0 := h.c0
  have HI := Lib.hid (fun W (hW : Doc W b o n cap D) => show Calls Try.prog 122 #[.slice (some ⟨b, o, none⟩) n cap, .agg #[.int .i64 p, .int .i64 q, .int .i64 25, .int .i64 k]] W fun e w' => e = .returned (.tuple #[.string ⟨(findS D p q 25 k true).toArray⟩, .int .i64 (findE D p q 25 k true)]) ∧ Below W.heap.size W w' from tblob_any b o n cap D p q 25 k W hW)
  generalize findE D p q 25 k true = E at *; generalize findS D p q 25 k true = v at *
  go_enter Try.func100, Try.ntmps100
  go_upto_region 1 with fail
  refine wp_named (fun wn => Below w.heap.size w wn ∧ w.heap.size + 1 < wn.heap.size ∧ wn.cell? ⟨w.heap.size, 0, none⟩ = some (.int .i64 p) ∧ wn.cell? ⟨w.heap.size, 1, none⟩ = some (.int .i64 q) ∧ wn.cell? ⟨w.heap.size, 2, none⟩ = some (.int .i64 25) ∧ wn.cell? ⟨w.heap.size, 3, none⟩ = some (.int .i64 k) ∧ wn.cell? ⟨w.heap.size, 4, none⟩ = some (.int .i64 a) ∧ wn.cell? ⟨lk, 0, none⟩ = some (.slice (some ⟨b, o, none⟩) n cap) ∧ wn.heap[w.heap.size + 1]? = some (.cells #[.int .i64 0, .int .i64 0, .int .u64 0, .string ⟨#[]⟩, .slice none 0 0, .slice none 0 0] 44 (0, 0))) ⟨by exact zw, by simp, by go_simp, by go_simp, by go_simp, by go_simp, by go_simp, by go_simp, heap_made_2 _ _ _⟩ ?_
  rintro wn ⟨hbn, hX, z0, z1, z2, z3, z4, z5, hz⟩
  have hDn := hD.below hbn
  have hKn := h.keep hlow hbn (Nat.le_refl _)
  have gln : lk < wn.heap.size := hKn.lkt
  have hX0 : w.heap.size < wn.heap.size := by omega
  have hz' := Lib.hid hz
  clear hz
  go_region_held3 (fun w' => w'.cell? ⟨w.heap.size, 0, none⟩ = some (.int .i64 p) ∧ w'.cell? ⟨w.heap.size, 1, none⟩ = some (.int .i64 q) ∧ w'.cell? ⟨w.heap.size, 2, none⟩ = some (.int .i64 25) ∧ w'.cell? ⟨w.heap.size, 3, none⟩ = some (.int .i64 k) ∧ w'.cell? ⟨w.heap.size, 4, none⟩ = some (.int .i64 a) ∧ w'.cell? ⟨lk, 0, none⟩ = some (.slice (some ⟨b, o, none⟩) n cap)) (first | (with_reducible exact ⟨z0, z1, z2, z3, z4, z5⟩) | (refine ⟨?_, ?_, ?_, ?_, ?_, ?_⟩ <;> go_keep)) ((go_at_call 122; refine (HI.out _ (hDn.below zw)).mono ?_; rintro e w1 ⟨rfl, hb1⟩; obtain ⟨hc1, hf1, hl1⟩ := bcell hb1; (try simp only [zdz] at hc1 hf1 hl1); have hz1 := hb1.size; (try simp only [zsz] at hz1); (try have g0 : w.heap.size < w1.heap.size := by omega); (try have g1 : w.heap.size + 1 < w1.heap.size := by omega); (try have gl : lk < w1.heap.size := by omega)))
  go_upto_region 2 with fail
  refine wp_named (fun wx => Below wn.heap.size wn wx ∧ wx.cell? ⟨w.heap.size, 4, none⟩ = some (.int .i64 a)) ⟨by exact zw, by go_simp⟩ ?_
  rintro wx ⟨hbx, y4⟩
  have hzx := (hbx.block _ hX).trans hz'.out
  have hKx := hKn.keep hKn.low hbx (Nat.le_refl _)
  have gX : w.heap.size + 1 < wx.heap.size := Nat.lt_of_lt_of_le hX hbx.size
  have hwx : Below w.heap.size w wx := hbn.trans (hbx.mono hbn.size)
  clear z0 z1 z2 z3 z4 z5 hz' hbn hDn hKn hbx HI
  go_upto_region 3 with (go_at_call 64; refine (dtell hKx a _).mono ?_; rintro e w1 ⟨rfl, hv1, ht1⟩)
  have hzz := (ht1.block _ gX (by simp; omega)).trans hzx
  have hs1 := ht1.size
  have gX1 : w.heap.size + 1 < w1.heap.size := by omega
  have hfz := fun (j : Nat) => frozen_of_row _ _ j _ _ hzz
  have n0 : w1.cell? ⟨w.heap.size + 1, 0, none⟩ = some (.int .i64 0) := cell_of_row _ _ _ _ _ _ hzz
  have n1 : w1.cell? ⟨w.heap.size + 1, 1, none⟩ = some (.int .i64 0) := cell_of_row _ _ _ _ _ _ hzz
  have n2 : w1.cell? ⟨w.heap.size + 1, 2, none⟩ = some (.int .u64 0) := cell_of_row _ _ _ _ _ _ hzz
  have n3 : w1.cell? ⟨w.heap.size + 1, 3, none⟩ = some (.string ⟨#[]⟩) := cell_of_row _ _ _ _ _ _ hzz
  have n4 : w1.cell? ⟨w.heap.size + 1, 4, none⟩ = some (.slice none 0 0) := cell_of_row _ _ _ _ _ _ hzz
  have n5 : w1.cell? ⟨w.heap.size + 1, 5, none⟩ = some (.slice none 0 0) := cell_of_row _ _ _ _ _ _ hzz
  go_wp2
  have hlow1 : DLow (w.heap.size + 1) lk b := hlow.mono (by omega)
  refine bodyPost_ret (v := .agg #[.int .i64 0, .int .i64 0, .int .u64 0, .string ⟨v.toArray⟩, .slice none 0 0, .slice none 0 0]) (by simp [results, Try.results100, go_sem, *]) rfl ?_
  refine ⟨rfl, hv1.keep (B := w.heap.size + 1) hlow1 zw (by omega), Tch.touch (Tch.trans (Below.tch hwx) (Tch.trans (ht1.tch (by omega)) (by (repeat' first | (with_reducible first | exact Tch.refl _ _ _ | assumption | refine Tch.alloc ?_ ?_ _ | refine Tch.drew ?_ | refine Tch.drewN ?_ _ | refine Tch.setCell ?_ ?_ _ | refine Tch.setBlock ?_ (by simp) _ | refine tch_call (by assumption) ?_ ?_ | refine tch_below (by assumption) ?_ ?_ | exact zb6 _) | omega | (simp only [zsz, size_setBlock]; omega) | (simp; omega)))))⟩
end
end
end Go.Proofs.Ytmpflnlajakibaa
