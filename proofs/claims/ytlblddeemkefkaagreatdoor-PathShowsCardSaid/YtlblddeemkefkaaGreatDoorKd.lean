/- The walk of utf.Quote at every valid string of at most 2^30 bytes. -/
import Derived.Test.YtlblddeemkefkaaGreatDoorKc
import Derived.Test.YtlblddeemkefkaaGreatDoorPv
import Derived.Test.YtlblddeemkefkaaGreatDoorLc
import Derived.Deep.RegionHeld3
namespace Go.Proofs.YtlblddeemkefkaaGreatDoor
set_option linter.unusedVariables false
set_option linter.unusedSimpArgs false
open Go.RowKit Go.Shelf
def mkL : List UInt8 := [34, 92, 47, 98, 102, 110, 114, 116]
def hxL : List UInt8 := [48, 49, 50, 51, 52, 53, 54, 55, 56, 57, 97, 98, 99, 100, 101, 102]
/-- Where a rune stands among the eight. -/
def qIdx (r : Nat) : Int := if r < 128 then Lib.indexByte qL r.toUInt8 else -1
/-- The spelling of a rune in a literal. -/
def quoR (r : Nat) : List UInt8 :=
  if 0 ≤ qIdx r ∧ r ≠ 47 then [92, mkL.getD (qIdx r).toNat 0]
  else if r < 32 then [92, 117, 48, 48, hxL.getD (r / 16) 0, hxL.getD (r % 16) 0]
  else Lib.encodeRune r
def quoF (s : ByteArray) : Nat → Nat → List UInt8
  | 0, _ => []
  | f + 1, pos => if pos < s.size then quoR (Utf8.decode s pos).1 ++ quoF s f (pos + (Utf8.decode s pos).2) else []
/-- The literal of a text. -/
def quoL' (l : List UInt8) : List UInt8 := 34 :: (quoF ⟨l.toArray⟩ l.length 0 ++ [34])
theorem quo_width (s : ByteArray) (pos : Nat) (h : pos < s.size) : 1 ≤ (Utf8.decode s pos).2 := by
  by_cases ha : (s[pos]'h).toNat < 128
  · rw [decode_ascii s pos h ha]
    exact Nat.le_refl _
  · exact (decode_high s pos h (by omega)).2
theorem quo_width4 (s : ByteArray) (pos : Nat) : (Utf8.decode s pos).2 ≤ 4 := by
  rw [Lib.decode_at]
  unfold Lib.decodeN
  (repeat' split) <;> simp
theorem quoR_len (r : Nat) : (quoR r).length ≤ 6 := by
  unfold quoR
  split
  · simp
  · split
    · simp
    · unfold Lib.encodeRune
      rw [List.length_map]
      have := (Lib.encodeRuneZ_length (r : Int)).2
      omega
theorem q_bd (r : Nat) : -1 ≤ qIdx r ∧ qIdx r < 8 := by
  unfold qIdx
  split
  · have hall : ∀ n : Fin 128, -1 ≤ Lib.indexByte qL n.val.toUInt8 ∧ Lib.indexByte qL n.val.toUInt8 < 8 := by decide +kernel
    exact hall ⟨r, by assumption⟩
  · omega
/-- A rune that the decoder hands out. -/
theorem dec_valid (s : ByteArray) (pos : Nat) : (Utf8.decode s pos).1 < 55296 ∨ (57343 < (Utf8.decode s pos).1 ∧ (Utf8.decode s pos).1 ≤ 1114111) := by
  rw [Lib.decode_at]
  have hb := (s.get! pos).toNat_lt
  unfold Lib.decodeN
  (repeat' split) <;> omega
theorem valid_u (r : Nat) (h : r < 55296 ∨ (57343 < r ∧ r ≤ 1114111)) : Utf8.valid (r : Int) = true ∧ Lib.validRune (r : Int) = true := by
  constructor
  · unfold Utf8.valid
    simp only [Bool.or_eq_true, Bool.and_eq_true, decide_eq_true_eq]
    omega
  · unfold Lib.validRune
    simp only [decide_eq_true_eq]
    omega
/-- strings.IndexRune at the eight bytes. -/
theorem irune_any (r : Nat) (h : r < 55296 ∨ (57343 < r ∧ r ≤ 1114111)) (w : World) : Calls Tryz.prog 76 #[.string ⟨#[34, 92, 47, 8, 12, 10, 13, 9]⟩, .int .i32 r] w fun e w' => e = .returned (.int .i64 (qIdx r)) ∧ Below w.heap.size w w' := by
  obtain ⟨v1, v2⟩ := valid_u r h
  unfold qIdx
  by_cases h1 : r < 128
  · rw [if_pos h1]
    refine (Tryz.strings_IndexRune_ascii ⟨#[34, 92, 47, 8, 12, 10, 13, 9]⟩ (r : Int) w (by omega) (by omega)).mono ?_
    rintro e w' ⟨rfl, rfl⟩
    exact ⟨rfl, Below.refl _ _⟩
  · rw [if_neg h1]
    by_cases h2 : r = 65533
    · subst h2
      exact irune_err w
    · exact irune_high (r : Int) (by omega) (by omega) (by omega) v1 v2 w
set_option maxHeartbeats 4000000 in
set_option maxRecDepth 100000 in
theorem valid_any (l : List UInt8) (hl : l.length ≤ 1073741824) (w : World) (hT : Tabs w) : Calls Tryz.prog 74 #[strV l] w fun e w' => e = .returned (.bool (Lib.validD l)) ∧ Below w.heap.size w w' := by
  have HV := Lib.hid (Tryz.utf8_ValidString ⟨l.toArray⟩ w (by simp [ByteArray.size]; omega) hT)
  unfold strV
  go_enter Tryz.func74, Tryz.ntmps74
  go_wp2_with fail
  refine HV.out.mono ?_
  rintro e w1 ⟨rfl, hb⟩
  have HB := Lib.hid hb
  clear hb
  go_wp2_with fail
  go_ret
  exact ⟨rfl, HB.out⟩
/-- The builder's text lies in no iterator's block. -/
theorem BOk.nk {B R K : Nat} {w : World} {o : List UInt8} {addr buf : Value} {s : ByteArray} {pos : Nat} (h : BOk B w R o addr buf) (hk : w.heap[K]? = some (.stringIter s pos)) : K ≠ R ∧ buf.ownBlock ≠ some K := by
  constructor
  · rintro rfl
    rw [h.row] at hk
    cases hk
  · intro e
    rcases h.own.2 with ⟨hn, -⟩ | ⟨g, c, cur, hv, hb, hg, rest⟩
    · rw [hn] at e; cases e
    · rw [hv] at e
      have : g = K := by simpa [Value.ownBlock] using e
      rw [this, hk] at hg
      cases hg
theorem BOk.iter {B R K : Nat} {w : World} {o : List UInt8} {addr buf : Value} {s : ByteArray} {pos : Nat} (h : BOk B w R o addr buf) (hk : w.heap[K]? = some (.stringIter s pos)) (pos' : Nat) : BOk B (w.iterAt K s pos') R o addr buf :=
  h.to (fun k hkk _ => Lib.iterAt_other w K k s pos' (by
    obtain ⟨n1, n2⟩ := h.nk hk
    rintro rfl
    rcases hkk with e | e
    · exact n1 e
    · exact n2 e))
theorem Oth.iter {B R K : Nat} {w w' : World} {o : List UInt8} {addr buf : Value} {s : ByteArray} {pos : Nat} (ho : Oth R buf w w') (h : BOk B w R o addr buf) (hk : w.heap[K]? = some (.stringIter s pos)) : w'.heap[K]? = some (.stringIter s pos) := by
  obtain ⟨n1, n2⟩ := h.nk hk
  exact (ho K (row_lt hk) n1 n2).trans hk
theorem slice32 {x : List UInt8} {m : Nat} (hm : m < x.length) (W : World) : (Instr.slice 9 (.string ⟨x.toArray⟩) (some (.int .i32 m)) (some (.int .i32 ((m : Int) + 1))) none).run Tryz.prog W = .ok (.string ⟨#[x.getD m 0]⟩) W := by
  have h := run_slice_string W 9 ⟨x.toArray⟩ .i32 .i32 (m : Int) ((m : Int) + 1) Tryz.underlying9 (by omega) (by omega) (by simp [ByteArray.size]; omega)
  refine h.trans ?_
  have e0 : (⟨x.toArray⟩ : ByteArray).extract m (m + 1) = ⟨((x.drop m).take (m + 1 - m)).toArray⟩ := by
    apply ByteArray.ext
    rw [ByteArray.data_extract]
    apply Array.toList_inj.1
    simp
  have e3 : (x.drop m).take (m + 1 - m) = [x.getD m 0] := by
    rw [Nat.add_sub_cancel_left, List.drop_eq_getElem_cons hm, List.take_succ_cons, List.take_zero, List.getD_eq_getElem?_getD, List.getElem?_eq_getElem hm]
    rfl
  have e : (⟨x.toArray⟩ : ByteArray).extract m (m + 1) = ⟨#[x.getD m 0]⟩ := by rw [e0, e3]
  have e2 : ((m : Int) + 1).toNat = m + 1 := by omega
  simp only [Int.toNat_natCast, e2, e]
theorem bits15 : ∀ n : Fin 32, bits .and .i32 ((n.val : Nat) : Int) 15 = ((n.val % 16 : Nat) : Int) := by decide
set_option maxHeartbeats 16000000 in
set_option maxRecDepth 100000 in
theorem quote_any (l : List UInt8) (hv : Lib.validD l = true) (hl : l.length ≤ 1073741824) (w : World) (hT : Tabs w) : Calls Tryz.prog 39 #[strV l] w fun e w' => e = .returned (.tuple #[strV (quoL' l), .int .i64 0]) ∧ Below w.heap.size w w' := by
  have hs : (⟨l.toArray⟩ : ByteArray).size = l.length := by simp [ByteArray.size]
  have hva := valid_any l hl w hT
  rw [hv] at hva
  obtain ⟨res, hres⟩ : ∃ z, z = quoL' l := ⟨_, rfl⟩
  rw [← hres]
  have HRES := Lib.hid (show [34] ++ quoF ⟨l.toArray⟩ l.length 0 ++ [34] = res by rw [hres]; rfl)
  unfold strV at hva ⊢
  have HV := Lib.hid hva
  clear hva hres hv hT
  generalize hS : (⟨l.toArray⟩ : ByteArray) = S at *
  have hsl : S.size ≤ 1073741824 := by omega
  rw [← hs] at HRES
  clear hS hs hl
  go_enter Tryz.func39, Tryz.ntmps39
  go_wp2_with fail
  refine HV.out.mono ?_
  rintro e w1 ⟨rfl, hb1⟩
  have HB1 := Lib.hid hb1
  clear hb1 HV
  go_upto_region 4 with fail
  refine wp_named (fun wn => BOk w1.heap.size wn w1.heap.size [] (.pointer none) (.slice none 0 0) ∧ Below w.heap.size w wn ∧ w.heap.size ≤ w1.heap.size ∧ w1.heap.size < wn.heap.size) ⟨⟨Nat.le_refl _, heap_alloc_new _ _, .inl rfl, World.ownsRow_nil _ _ _ 1, by simp [Value.ownBlock]⟩, HB1.out.alloc HB1.out.size _, HB1.out.size, by simp⟩ ?_
  clear HB1
  generalize w1.heap.size = R at *
  rintro wn ⟨h1, hb1, hwR, hRn⟩
  have H1 := Lib.hid h1
  have HB1 := Lib.hid hb1
  have HWR := Lib.hid (And.intro hwR hRn)
  clear h1 hb1 hwR hRn
  go_wp2_with fail
  refine (bwriteR_any 34 (by omega) (by omega) (by simp) H1.out).mono ?_
  rintro e w2 ⟨⟨v, rfl⟩, ⟨buf, h2⟩, hb2, -⟩
  have e34 : ([] : List UInt8) ++ Lib.encodeRune 34 = [34] := rfl
  rw [e34] at h2
  have H2 := Lib.hid h2
  have HB2 := Lib.hid (HB1.out.trans (hb2.mono HWR.out.1))
  have HRZ := Lib.hid (show R < w2.heap.size from h2.lt)
  clear h2 hb2 H1 HB1 e34
  have hstart := World.iter_heap w2 S 0
  have HST := Lib.hid hstart
  clear hstart
  go_wp2_with fail
  go_loopw [] (fun wr => ∃ (pos fu : Nat) (o : List UInt8) (addr buf : Value), BOk R wr R o addr buf ∧ wr.heap[w2.heap.size]? = some (.stringIter S pos) ∧ Below w.heap.size w wr ∧ Hid (o ++ quoF S fu pos ++ [34] = res) ∧ S.size ≤ pos + fu ∧ o.length ≤ 1 + 6 * pos ∧ o ≠ [] ∧ pos ≤ S.size + 4) (fun wr => S.size - wr.iterPos w2.heap.size)
  case atStart => exact ⟨0, S.size, [34], _, _, H2.out.alloc _, by simpa using HST.out, HB2.out.alloc HB2.out.size _, HRES, by omega, by simp, by simp, by omega⟩
  case round =>
    clear HST H2 HB2 HRES
    generalize w2.heap.size = K at *
    obtain ⟨pos, fu, o, addr, buf, hB, hit, hb, hq, hfu, hol, hon, hpos⟩ := hrel
    by_cases hp : pos < S.size
    · have hnx : ∀ ty, (Instr.next (.pointer (some ⟨K, 0, none⟩)) true ty).run Tryz.prog wr = _ := fun ty => Lib.run_next_any_at wr K S pos ty hit hp
      have hdv := dec_valid S pos
      have hwd := quo_width S pos hp
      have hw4 := quo_width4 S pos
      obtain ⟨f, rfl⟩ : ∃ f, fu = f + 1 := ⟨fu - 1, by omega⟩
      have hq2 := hq.out
      rw [quoF, if_pos hp] at hq2
      have hK2 := Lib.iterAt_heap wr K S pos (pos + (Utf8.decode S pos).2) hit
      have hBi := hB.iter hit (pos + (Utf8.decode S pos).2)
      have hKw : w.heap.size ≤ K := by
        have := HRZ.out
        have := HWR.out.1
        omega
      have hbi := Lib.below_iterAt hb (k := K) hKw S (pos + (Utf8.decode S pos).2)
      have hm1 : wr.iterPos K = pos := by simp [World.iterPos, hit]
      generalize hr : (Utf8.decode S pos).1 = r at *
      generalize hpp : pos + (Utf8.decode S pos).2 = p2 at *
      have hp2 : pos + 1 ≤ p2 := by omega
      have hp4 : p2 ≤ S.size + 4 := by omega
      generalize hwi : wr.iterAt K S p2 = wi at *
      clear hr hpp hq hit hB hb hwi hwd hw4
      have HI := Lib.hid (And.intro hBi (And.intro hK2 (And.intro hbi hm1)))
      have HQ := Lib.hid hq2
      have HDV := Lib.hid hdv
      clear hBi hK2 hbi hm1 hq2
      go_wp2_with fail
      refine (irune_any r HDV.out _).mono ?_
      rintro e w3 ⟨rfl, hb3⟩
      have HJ := Lib.hid (show BOk R w3 R o addr buf ∧ w3.heap[K]? = some (.stringIter S p2) ∧ Below w.heap.size w w3 from ⟨HI.out.1.below hb3, (hb3.block _ (row_lt HI.out.2.1)).trans HI.out.2.1, HI.out.2.2.1.trans (hb3.mono HI.out.2.2.1.size)⟩)
      clear hb3
      have hkb := q_bd r
      have hql : o.length ≤ 1099511627776 := by omega
      by_cases hA : 0 ≤ qIdx r ∧ r ≠ 47
      case pos =>
        obtain ⟨a1, a2⟩ := hA
        obtain ⟨kn, hkn⟩ : ∃ n : Nat, qIdx r = (n : Int) := ⟨(qIdx r).toNat, by omega⟩
        have HX := Lib.hid (show quoR r = [92, mkL.getD kn 0] by unfold quoR; rw [if_pos ⟨a1, a2⟩, hkn]; rfl)
        rw [hkn] at hkb a1 ⊢
        have d0 : decide ((0 : Int) ≤ (kn : Int)) = true := decide_eq_true a1
        have e47 : ((r : Int) != 47) = true := by simp only [bne_iff_ne, ne_eq]; omega
        have q1 : IntKind.i64.wrap ((kn : Int) + 1) = (kn : Int) + 1 := IntWalk.i64_in _ (by omega)
        have hsl1 : ∀ W : World, (Instr.slice 9 (.string ⟨#[34, 92, 47, 98, 102, 110, 114, 116]⟩) (some (.int .i64 kn)) (some (.int .i64 ((kn : Int) + 1))) none).run Tryz.prog W = .ok (.string ⟨#[mkL.getD kn 0]⟩) W := fun W => slice1 (x := mkL) (show kn < 8 by omega) W
        have hws := bwriteS_any [92, mkL.getD kn 0] (by simp) hql HJ.out.1
        unfold strV at hws
        generalize mkL.getD kn 0 = m at *
        have hadd : (⟨#[92]⟩ : ByteArray) ++ ⟨#[m]⟩ = ⟨#[92, m]⟩ := str_app [92] [m]
        have HW := Lib.hid hws
        clear hws hkn hkb a2
        go_wp2_with fail
        refine HW.out.mono ?_
        rintro e w4 ⟨rfl, ⟨buf2, h4⟩, hb4, ho4⟩
        have hx : o ++ [92, m] = o ++ quoR r := by rw [HX.out]
        rw [hx] at h4
        have HE := Lib.hid (And.intro h4 (And.intro (ho4.iter HJ.out.1 HJ.out.2.1) (HJ.out.2.2.trans (hb4.mono HWR.out.1))))
        clear h4 hb4 ho4 HJ hx
        go_wp2_with fail
        go_roundw
        case rel => exact ⟨p2, f, o ++ quoR r, _, _, HE.out.1, HE.out.2.1, HE.out.2.2, Lib.hid (by rw [← HQ.out]; simp only [List.append_assoc]), by omega, by rw [List.length_append]; have := quoR_len r; omega, by simp [hon], hp4⟩
        case measure => have h1 := HI.out.2.2.2; have h2 : w4.iterPos K = p2 := (by simp [World.iterPos, HE.out.2.1]); rw [h1, h2]; omega
      by_cases h32 : r < 32
      case pos =>
        have hneg : ¬ 0 ≤ qIdx r := fun h => hA ⟨h, by omega⟩
        have HX := Lib.hid (show quoR r = [92, 117, 48, 48, hxL.getD (r / 16) 0, hxL.getD (r % 16) 0] by unfold quoR; rw [if_neg hA, if_pos h32])
        have d0 : decide ((0 : Int) ≤ qIdx r) = false := decide_eq_false hneg
        have z32 : (r : Int) < 32 := by omega
        have hb15 : bits BinOp.and IntKind.i32 (r : Int) 15 = ((r % 16 : Nat) : Int) := bits15 ⟨r, h32⟩
        obtain ⟨ra, hra⟩ : ∃ z, z = r / 16 := ⟨_, rfl⟩
        obtain ⟨rb, hrb⟩ : ∃ z, z = r % 16 := ⟨_, rfl⟩
        have h16 : (r : Int) / 16 = (ra : Int) := by omega
        rw [← hrb] at hb15
        rw [← hra, ← hrb] at HX
        have q1 : IntKind.i32.wrap ((ra : Int) + 1) = (ra : Int) + 1 := IntWalk.i32_in _ (by omega)
        have q2 : IntKind.i32.wrap ((rb : Int) + 1) = (rb : Int) + 1 := IntWalk.i32_in _ (by omega)
        have q3 : IntKind.i32.wrap (ra : Int) = (ra : Int) := IntWalk.i32_in _ (by omega)
        have q4 : IntKind.i32.wrap (rb : Int) = (rb : Int) := IntWalk.i32_in _ (by omega)
        have hsl1 : ∀ W : World, (Instr.slice 9 (.string ⟨#[48, 49, 50, 51, 52, 53, 54, 55, 56, 57, 97, 98, 99, 100, 101, 102]⟩) (some (.int .i32 ra)) (some (.int .i32 ((ra : Int) + 1))) none).run Tryz.prog W = .ok (.string ⟨#[hxL.getD ra 0]⟩) W := fun W => slice32 (x := hxL) (m := ra) (show ra < 16 by omega) W
        have hsl2 : ∀ W : World, (Instr.slice 9 (.string ⟨#[48, 49, 50, 51, 52, 53, 54, 55, 56, 57, 97, 98, 99, 100, 101, 102]⟩) (some (.int .i32 rb)) (some (.int .i32 ((rb : Int) + 1))) none).run Tryz.prog W = .ok (.string ⟨#[hxL.getD rb 0]⟩) W := fun W => slice32 (x := hxL) (m := rb) (show rb < 16 by omega) W
        generalize qIdx r = k at *
        clear hneg hA hkb hra hrb hdv
        have hws := fun (W : World) (h : BOk R W R o addr buf) => bwriteS_any [92, 117, 48, 48, hxL.getD ra 0, hxL.getD rb 0] (by simp) hql h
        unfold strV at hws
        generalize hxL.getD ra 0 = m1 at *
        generalize hxL.getD rb 0 = m2 at *
        have hadd : (⟨#[92, 117, 48, 48]⟩ : ByteArray) ++ ⟨#[m1]⟩ = ⟨#[92, 117, 48, 48, m1]⟩ := str_app [92, 117, 48, 48] [m1]
        have hadd2 : (⟨#[92, 117, 48, 48, m1]⟩ : ByteArray) ++ ⟨#[m2]⟩ = ⟨#[92, 117, 48, 48, m1, m2]⟩ := str_app [92, 117, 48, 48, m1] [m2]
        have HW := Lib.hid hws
        clear hws
        go_wp2_with fail
        go_region_held3 (fun _ => True) (trivial) ((go_at_call 42; refine (HW.out _ HJ.out.1.drew).mono ?_; rintro e w4 ⟨rfl, ⟨buf2, h4⟩, hb4, ho4⟩))
        have hx : o ++ [92, 117, 48, 48, m1, m2] = o ++ quoR r := by rw [HX.out]
        rw [hx] at h4
        have ho5 : Oth R buf w3 w4 := ho4
        have hb5 : Below R w3 w4 := (below_drew1 (Below.refl _ _)).trans hb4
        have HE := Lib.hid (And.intro h4 (And.intro (ho5.iter HJ.out.1 HJ.out.2.1) (HJ.out.2.2.trans (hb5.mono HWR.out.1))))
        clear h4 hb4 ho4 HJ hx ho5 hb5
        go_wp2_with fail
        go_roundw
        case rel => exact ⟨p2, f, o ++ quoR r, _, _, HE.out.1, HE.out.2.1, HE.out.2.2, Lib.hid (by rw [← HQ.out]; simp only [List.append_assoc]), by omega, by rw [List.length_append]; have := quoR_len r; omega, by simp [hon], hp4⟩
        case measure => have h1 := HI.out.2.2.2; have h2 : w4.iterPos K = p2 := (by simp [World.iterPos, HE.out.2.1]); rw [h1, h2]; omega
      have z32 : ¬ (r : Int) < 32 := by omega
      have HX := Lib.hid (show quoR r = Lib.encodeRune r by unfold quoR; rw [if_neg hA, if_neg h32])
      have hwr := bwriteR_any (r : Int) (by omega) (by omega) hql HJ.out.1
      have HW := Lib.hid hwr
      clear hwr
      by_cases hk0 : 0 ≤ qIdx r
      case pos =>
        have h47 : r = 47 := by by_cases h : r = 47; exact h; exact absurd ⟨hk0, h⟩ hA
        have d0 : decide ((0 : Int) ≤ qIdx r) = true := decide_eq_true hk0
        have e47 : ((r : Int) != 47) = false := by rw [h47]; rfl
        generalize qIdx r = k at *
        clear hA hkb hk0 h47 h32 hdv
        go_wp2_with fail
        refine HW.out.mono ?_
        rintro e w4 ⟨⟨v4, rfl⟩, ⟨buf2, h4⟩, hb4, ho4⟩
        have hx : o ++ Lib.encodeRune r = o ++ quoR r := by rw [HX.out]
        rw [hx] at h4
        have HE := Lib.hid (And.intro h4 (And.intro (ho4.iter HJ.out.1 HJ.out.2.1) (HJ.out.2.2.trans (hb4.mono HWR.out.1))))
        clear h4 hb4 ho4 HJ hx
        go_wp2_with fail
        go_roundw
        case rel => exact ⟨p2, f, o ++ quoR r, _, _, HE.out.1, HE.out.2.1, HE.out.2.2, Lib.hid (by rw [← HQ.out]; simp only [List.append_assoc]), by omega, by rw [List.length_append]; have := quoR_len r; omega, by simp [hon], hp4⟩
        case measure => have h1 := HI.out.2.2.2; have h2 : w4.iterPos K = p2 := (by simp [World.iterPos, HE.out.2.1]); rw [h1, h2]; omega
      have d0 : decide ((0 : Int) ≤ qIdx r) = false := decide_eq_false hk0
      generalize qIdx r = k at *
      clear hA hkb hk0 h32 hdv
      go_wp2_with fail
      refine HW.out.mono ?_
      rintro e w4 ⟨⟨v4, rfl⟩, ⟨buf2, h4⟩, hb4, ho4⟩
      have hx : o ++ Lib.encodeRune r = o ++ quoR r := by rw [HX.out]
      rw [hx] at h4
      have HE := Lib.hid (And.intro h4 (And.intro (ho4.iter HJ.out.1 HJ.out.2.1) (HJ.out.2.2.trans (hb4.mono HWR.out.1))))
      clear h4 hb4 ho4 HJ hx
      go_wp2_with fail
      go_roundw
      case rel => exact ⟨p2, f, o ++ quoR r, _, _, HE.out.1, HE.out.2.1, HE.out.2.2, Lib.hid (by rw [← HQ.out]; simp only [List.append_assoc]), by omega, by rw [List.length_append]; have := quoR_len r; omega, by simp [hon], hp4⟩
      case measure => have h1 := HI.out.2.2.2; have h2 : w4.iterPos K = p2 := (by simp [World.iterPos, HE.out.2.1]); rw [h1, h2]; omega
    · have hnx : ∀ ty, (Instr.next (.pointer (some ⟨K, 0, none⟩)) true ty).run Tryz.prog wr = _ := fun ty => Lib.run_next_end_at wr K S pos ty hit hp
      have hq2 : o ++ [34] = res := by
        rw [← hq.out]
        have : quoF S fu pos = [] := by cases fu with | zero => rfl | succ f => rw [quoF, if_neg hp]
        rw [this, List.append_nil]
      have HB := Lib.hid (And.intro hB hb)
      have hql : o.length ≤ 1099511627776 := by
        have : pos ≤ S.size + 4 := hpos
        omega
      clear hit hB hb hq
      go_wp2_with fail
      refine (bwriteR_any 34 (by omega) (by omega) hql HB.out.1).mono ?_
      rintro e w4 ⟨⟨v4, rfl⟩, ⟨buf2, h4⟩, hb4, -⟩
      have e34 : o ++ Lib.encodeRune 34 = res := hq2
      rw [e34] at h4
      have hne : res ≠ [] := by rw [← hq2]; simp
      have HE := Lib.hid (And.intro h4 (HB.out.2.trans (hb4.mono HWR.out.1)))
      clear hb4 HB h4 e34 hq2
      go_wp2_with fail
      refine (bstring_any hne HE.out.1).mono ?_
      rintro e w5 ⟨rfl, hb5⟩
      have HF := Lib.hid (HE.out.2.trans (hb5.mono HWR.out.1))
      clear hb5 HE
      unfold strV
      go_wp2_with fail
      go_ret2
      exact ⟨rfl, HF.out⟩
end Go.Proofs.YtlblddeemkefkaaGreatDoor
