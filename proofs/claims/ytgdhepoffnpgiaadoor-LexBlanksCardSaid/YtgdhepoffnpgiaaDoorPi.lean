/- accordionlaw10.LexBlanks returns true for every slice of pairs of ints and every slice of ints, and each reads afterwards as it did. Condition: the listed variables (unicode/utf8.first and acceptRanges, strconv.ErrRange and ErrSyntax, internal/strconv.uint64pow10, math/bits' two tables) hold what the program's text lays; the card ties that. -/
import Derived.Test.YtgdhepoffnpgiaaDoorPh
import Derived.Test.YtgdhepoffnpgiaaDoorMd
import Derived.Test.YtgdhepoffnpgiaaDoorCards
import Derived.Test.YtgdhepoffnpgiaaDoorTie
import Derived.SevenTiedAt
import Derived.ShutString
import Derived.Lib.LaidTab
import Derived.OpenShut
import Derived.ChangeOld
import Derived.Carry
import Derived.Below
namespace Go.Proofs.YtgdhepoffnpgiaaDoor
set_option linter.unusedVariables false
set_option linter.unusedSimpArgs false
set_option linter.unusedSectionVars false
open Go.ChangeShapes Go.WideShapes Go.ChangeAt Go.RowKit
theorem wf_b64 {n : Int} (h : (Lit.int .i64 n).wf = true) : i64ok n := by
  simp [Lit.wf, IntKind.min, IntKind.max, IntKind.signed, IntKind.bits] at h
  unfold i64ok
  omega
theorem laidOut : laidOutB Tryd.prog = true := by kernel_rfl
theorem lt_cell {w : World} {a : Addr} {v : Value} (h : w.cell? a = some v) : a.block < w.heap.size := by
  cases hx : w.heap[a.block]? with
  | none => simp [World.cell?, hx] at h
  | some ob => exact (Array.getElem?_eq_some_iff.1 hx).1
section
variable {H : Type} {enc : TypeId × Value → H} {w : World} {base : Nat} {held : Bool}
theorem int_row {a : Option Addr} {len cap : Nat} {d : DataW H} {p : List MemPlace} (h : DataW.Trod enc Tryd.prog w base (fun _ => true) held 50 (.slice a len cap) d p) : IntRow w a len ∧ (len ≤ cap ∧ cap ≤ maxLen) := by
  obtain ⟨fuel, hf⟩ := h
  rcases open_ints Tryd.underlying50 Tryd.underlying3 (by kernel_rfl) hf with ⟨hcs, _⟩ | ⟨x, l, c, zs, hcs, _, hl, hm, hz, _, hcell, hwz⟩
  · simp [Value.cells] at hcs
    obtain ⟨rfl, rfl, rfl⟩ := hcs
    exact ⟨fun i hi => by omega, Nat.le_refl _, Nat.zero_le _⟩
  · simp [Value.cells] at hcs
    obtain ⟨rfl, rfl, rfl⟩ := hcs
    refine ⟨fun i hi => ?_, hl, hm⟩
    have hz' : zs.length = cap := by simpa using hz
    have hi' : i < zs.length := by omega
    have hc := hcell i hi'
    refine ⟨x, zs.getD i 0, rfl, wf_b64 (hwz _ ?_), ?_, hc⟩
    · rw [List.getD_eq_getElem?_getD, List.getElem?_eq_getElem hi']
      exact List.getElem_mem hi'
    · have := lt_cell hc
      rwa [add_block] at this
set_option maxRecDepth 100000 in
theorem pair_row {a : Option Addr} {len cap : Nat} {d : DataW H} {p : List MemPlace} (h : DataW.Trod enc Tryd.prog w base (fun _ => true) held 49 (.slice a len cap) d p) : PairRow w a len ∧ (len ≤ cap ∧ cap ≤ maxLen) := by
  obtain ⟨fuel, hf⟩ := h
  rcases DataW.trod_slice Tryd.underlying49 hf with ⟨hcs, _⟩ | ⟨x, l, c, elems, rest, n, _, hcs, _, _, hl, hm, hlen, hel, _⟩
  · simp [Value.cells] at hcs
    obtain ⟨rfl, rfl, rfl⟩ := hcs
    exact ⟨fun i hi => by omega, Nat.le_refl _, Nat.zero_le _⟩
  · simp [Value.cells] at hcs
    obtain ⟨rfl, rfl, rfl⟩ := hcs
    refine ⟨fun i hi => ?_, hl, hm⟩
    have he := hel i hi
    have hy : elems[i]? = some elems[i] := List.getElem?_eq_getElem (by omega)
    have hco : Tryd.prog.cellsOf 53 = 2 := by kernel_rfl
    have hc1 : Tryd.prog.cellsOf 3 = 1 := by kernel_rfl
    rw [hy, hco] at he
    obtain ⟨cs, hcs2, ht⟩ := Option.bind_eq_some_iff.1 he
    obtain ⟨_, hlen2, hcell⟩ := World.cells?_some hcs2
    obtain ⟨xs, m, _, _, _, hxl, hx⟩ := DataW.trod_array Tryd.underlying53 ht
    have h0 := hx 0 (by omega)
    have h1 := hx 1 (by omega)
    have e0 : xs[0]? = some xs[0] := List.getElem?_eq_getElem (by omega)
    have e1 : xs[1]? = some xs[1] := List.getElem?_eq_getElem (by omega)
    rw [hc1, e0] at h0
    rw [hc1, e1] at h1
    obtain ⟨n0, g0, -, w0⟩ := DataW.trod_int Tryd.underlying3 h0
    obtain ⟨n1, g1, -, w1⟩ := DataW.trod_int Tryd.underlying3 h1
    obtain ⟨c0, c1, rfl⟩ : ∃ c0 c1, cs = [c0, c1] := by
      clear g0 g1 h0 h1 ht hcell hcs2 he hx
      match cs, hlen2 with
      | [c0, c1], _ => exact ⟨c0, c1, rfl⟩
    simp only [Nat.zero_mul, List.drop_zero, List.take_succ_cons, List.take_zero, Nat.one_mul, List.drop_succ_cons, List.cons.injEq, and_true] at g0 g1
    subst g0 g1
    have q0 := hcell 0 (by omega)
    have q1 := hcell 1 (by omega)
    have a0 : (x.add (i * 2)).add 0 = x.add (i * 2) := by simp [Addr.add]
    rw [a0] at q0
    have hb := lt_cell (show w.cell? (x.add (i * 2)) = some (.int .i64 n0) from q0)
    rw [add_block] at hb
    exact ⟨x, n0, n1, rfl, wf_b64 w0, wf_b64 w1, hb, q0, q1⟩
end
set_option maxRecDepth 100000 in
theorem lexBlanks_lifted (os : Os) (started : os.Started) (H : Type) (enc : TypeId × Value → H) :
    ReturnsInHanded {} Tryd.checked os 8 .any (fun w args => (Rows.lexBlanksSpec.pre enc Tryd.prog Tryd.f8 [] false w args ∧ laidMetH Tryd.prog lxLaid w) ∧ sizedMet enc Tryd.prog Tryd.f8 (OpenSpec.ofChange Rows.lexBlanksSpec) false w args)
      (Rows.lexBlanksSpec.post enc Tryd.prog Tryd.f8 false true false false) := by
  refine returnsInHanded_of_change_and (C := Tryd.checked) (X := fun w _ => laidMetH Tryd.prog lxLaid w) (fun _ _ _ hh h => h.of_heap hh) own started (by kernel_rfl) Tryd.func8
    (ChangeSpec.witness_shaped (enc := enc) (C := Tryd.checked) (os := os) (X := fun w _ => laidMetH Tryd.prog lxLaid w) false (World.laidAll Tryd.prog os lxLaid) #[.slice none 0 0, .slice none 0 0] 8 (World.laidAll_os _ _ _)
      (World.shaped_of_ZipB (by kernel_rfl) (by kernel_rfl)) (by kernel_rfl) (by kernel_rfl) (by kernel_rfl) (lx_world os _)) ?_
  intro W base args ds gs before hval0 hW _ _ hL _
  have hval : ∀ (j : Nat) t v, Tryd.f8.params[j]? = some t → args[j]? = some v → Value.okWide Tryd.prog W .any base t v := hval0
  have hW' := hW
  obtain ⟨p, q, hA0, hV, rfl, hfz, hnd⟩ := hW
  have hA : DataW.TrodAll enc Tryd.prog W 0 (fun _ => true) true Tryd.f8.params.toList args.toList ds p := hA0
  rw [Tryd.params8] at hA hval
  obtain ⟨v0, v1, d0, d1, p0, p1, rfl, rfl, rfl, h0, h1⟩ := trodAll_two hA
  obtain ⟨rfl, rfl⟩ := trodVars_none hV
  obtain ⟨a0, len0, cap0, rfl⟩ := okWide_slice Tryd.underlying49 (hval 0 49 v0 rfl rfl)
  obtain ⟨a1, len1, cap1, rfl⟩ := okWide_slice Tryd.underlying50 (hval 1 50 v1 rfl rfl)
  have k0 := h0
  have k1 := h1
  have lt0 : ∀ x ∈ p0, x.block < W.heap.size := by obtain ⟨m, hm⟩ := k0; exact DataW.trod_lt m _ _ _ hm
  have lt1 : ∀ x ∈ p1, x.block < W.heap.size := by obtain ⟨m, hm⟩ := k1; exact DataW.trod_lt m _ _ _ hm
  obtain ⟨hP, hc0⟩ := pair_row h0
  obtain ⟨hR, hc1⟩ := int_row h1
  have hL' : laidMet Tryd.prog lxLaid W := by rwa [MakeChecks.laidMetH_plain _ _ _ (by kernel_rfl)] at hL
  have ht3 := hL'.tail.tail
  have htab : Lib.TabIs Tryd.prog W "internal/strconv.uint64pow10" .u64 Lib.pow10Tab := by
    have e0 : (Rows.laid_internal_strconv_uint64pow10 : DataW Unit) = Lib.tabData .u64 Lib.pow10Tab := by kernel_rfl
    rw [e0] at ht3
    exact Lib.tabIs_of_head (t := 121) (e := 23) (n := 20) (show Tryd.prog.globalNamed "internal/strconv.uint64pow10" = some 0 by kernel_rfl) (by kernel_rfl) (by kernel_rfl) Tryd.underlying23 (by kernel_rfl) (by kernel_rfl) ht3
  obtain ⟨hG, hB⟩ := glb_of_laid hL
  clear hA0 hval0
  simp only [List.append_nil] at hW'
  have e1 : Rows.lexBlanksSpec.fn H ([d0, d1] ++ []) = { results := [.lit (.bool true)], args := [d0, d1] } := by simp [Rows.lexBlanksSpec]
  refine (show Calls Tryd.prog 8 #[.slice a0 len0 cap0, .slice a1 len1 cap1] W _ from blanks_any a0 len0 cap0 a1 len1 cap1 W hP hR hc0 hc1 hG hB htab).mono fun e W' ⟨he, hb'⟩ => ?_
  subst he
  refine ⟨_, rfl, _, _, _, [], p0 ++ (p1 ++ []), [], hW', ?_, ?_, ?_, hb'.frame _, fun h => by cases h⟩
  · rw [e1]; exact trodAll_mk1 (shut_bool Tryd.underlying4 true)
  · rw [e1]; exact trodAll_cons_mk (Below.trod laidOut (by kernel_rfl) (of_decide_eq_true (by kernel_rfl)) k0 hb' lt0) (trodAll_cons_mk (Below.trod laidOut (by kernel_rfl) (of_decide_eq_true (by kernel_rfl)) k1 hb' lt1) trodAll_mk0)
  · rw [e1]; rfl
theorem lexBlanks_holds : Rows.LexBlanksSaid :=
  OpenClaim.holds_of_wide 8 Tryd.f8 rfl rfl rfl rfl rfl rfl rfl ⟨rfl, rfl, rfl, rfl, rfl⟩ rfl rfl rfl rfl rfl (by kernel_rfl) Tryd.func8 (by kernel_rfl)
    (of_decide_eq_true (by kernel_rfl)) (by unfold Func.isWrapper; first | (rw [if_neg (of_decide_eq_false (by kernel_rfl))]; exact ⟨rfl, rfl⟩) | (rw [if_pos (of_decide_eq_true (by kernel_rfl))]; kernel_rfl))
    (fun os started H enc _ => lexBlanks_lifted os started H enc)
theorem lexBlanksCard_proved : Rows.LexBlanksCardSaid :=
  Claim7.holds_tied_plain_at .later [] [.data, .data, .data, .data, .sentinel, .sentinel, .pinned] true (true, "d35393754c6e736f9b054c1eedc4f26098f2da9ea2b6710254e275660079e1f4") true
    lexBlanks_holds (fun _ h => by cases h) (by kernel_rfl) (fun _ h => by cases h) lexBlanks_row_tie rfl ⟨rfl, rfl⟩ (by kernel_rfl) rfl
    (fun f fn hf hfn => by
      obtain rfl : f = 8 := Option.some.inj ((show Tryd.prog.funcNamed "accordion/accordionlaw10.LexBlanks" = some 8 by kernel_rfl).symm.trans hf) |>.symm
      obtain rfl : fn = Tryd.f8 := (Option.some.inj (Tryd.func8.symm.trans hfn)).symm
      exact ⟨by kernel_rfl, fun j t ht => by
        rw [Tryd.params8] at ht
        have hm : t ∈ [49, 50] := by simpa using Array.mem_of_getElem? ht
        have hall : ([49, 50].all fun u => !Tryd.prog.wantsStandIn u) = true := by kernel_rfl
        exact (show Tryd.prog.wantsStandIn t = false by simpa using List.all_eq_true.1 hall t hm)⟩)
    (by kernel_rfl)
#print axioms lexBlanksCard_proved
end Go.Proofs.YtgdhepoffnpgiaaDoor
