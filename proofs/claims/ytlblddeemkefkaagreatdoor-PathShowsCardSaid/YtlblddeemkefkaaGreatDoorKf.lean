/- path.Show: the text of a path. -/
import Derived.Test.YtlblddeemkefkaaGreatDoorKe
import Derived.Test.YtlblddeemkefkaaGreatDoorFa
import Derived.Lib.SmallJoins
import Derived.Lib.AppendIntMem
namespace Go.Proofs.YtlblddeemkefkaaGreatDoor
set_option linter.unusedVariables false
set_option linter.unusedSimpArgs false
open Go.RowKit Go.Shelf
def stepOK (s : PS) : Bool := if s.2.2 = true then Lib.validD s.1 && decide (Lib.indexByte s.1 0 < 0) && s.2.1 == 0 else s.1.isEmpty && decide (0 ≤ s.2.1 ∧ s.2.1 ≤ 999999999)
def stepT (s : PS) : List UInt8 := 91 :: ((if s.2.2 = true then quoL' s.1 else Lib.itoa s.2.1) ++ [93])
/-- What path.Show gives. -/
def showM (p : List PS) : List UInt8 × Int := if 64 < p.length then ([], 5) else if p.all stepOK = true then (p.flatMap stepT, 0) else ([], 2)
structure ShowPre (p : List PS) (k : Nat) (o : List UInt8) : Prop where
  txt : o = (p.take k).flatMap stepT
  ok : (p.take k).all stepOK = true
theorem ShowPre.next {p : List PS} {k : Nat} {o x : List UInt8} {s : PS} (h : ShowPre p k o) (hk : k < p.length) (hs : p[k] = s) (ho : stepOK s = true) (hx : x = o ++ stepT s) : ShowPre p (k + 1) x := by
  refine ⟨?_, ?_⟩
  · rw [List.take_add_one, List.getElem?_eq_getElem hk, hs, List.flatMap_append, ← h.txt, hx]
    simp
  · rw [List.take_add_one, List.getElem?_eq_getElem hk, hs, List.all_append, h.ok]
    simp [ho]
theorem ShowPre.bad {p : List PS} {k : Nat} {o : List UInt8} {s : PS} (_ : ShowPre p k o) (hl : p.length ≤ 64) (hk : k < p.length) (hs : p[k] = s) (ho : stepOK s = false) : showM p = ([], 2) := by
  unfold showM
  rw [if_neg (by omega), if_neg]
  intro h
  rw [List.all_eq_true] at h
  have := h _ (List.getElem_mem hk)
  rw [hs, ho] at this
  cases this
theorem ShowPre.fin {p : List PS} {o : List UInt8} (h : ShowPre p p.length o) (hl : p.length ≤ 64) : showM p = (o, 0) := by
  unfold showM
  have a := h.ok
  have b := h.txt
  rw [List.take_length] at a b
  rw [if_neg (by omega), if_pos a, b]
theorem ShowPre.nonempty {p : List PS} {k : Nat} {o : List UInt8} (h : ShowPre p k o) (hk : 0 < k) (hp : 0 < p.length) : o ≠ [] := by
  rw [h.txt]
  cases p with
  | nil => simp at hp
  | cons s r =>
    obtain ⟨j, rfl⟩ : ∃ j, k = j + 1 := ⟨k - 1, by omega⟩
    simp [stepT]
theorem quoF_len (s : ByteArray) : ∀ (f pos : Nat), (quoF s f pos).length ≤ 6 * (s.size - pos)
  | 0, _ => by simp [quoF]
  | f + 1, pos => by
    rw [quoF]
    split
    · rename_i h
      rw [List.length_append]
      have a := quoR_len (Utf8.decode s pos).1
      have b := quoF_len s f (pos + (Utf8.decode s pos).2)
      have c := quo_width s pos h
      omega
    · simp
theorem quoL_len (l : List UInt8) : (quoL' l).length ≤ 6 * l.length + 2 := by
  unfold quoL'
  have := quoF_len ⟨l.toArray⟩ l.length 0
  have e : (⟨l.toArray⟩ : ByteArray).size = l.length := by simp [ByteArray.size]
  simp only [List.length_cons, List.length_append, List.length_nil]
  omega
/-- What path.Show leans on: the tables. -/
def ShowTabs (w : World) : Prop := Tabs w ∧ 1 < w.heap.size ∧ 2 < w.heap.size ∧ Lib.TabIs Tryz.prog w "internal/strconv.uint64pow10" .u64 Lib.pow10Tab
theorem ShowTabs.below {w w' : World} (h : ShowTabs w) (hb : Below w.heap.size w w') : ShowTabs w' :=
  ⟨h.1.below hb h.2.1 h.2.2.1, Nat.lt_of_lt_of_le h.2.1 hb.size, Nat.lt_of_lt_of_le h.2.2.1 hb.size, Joins.tab_stays (g := 5) (by kernel_rfl) h.2.2.2 hb (Nat.le_refl _)⟩
theorem cells3 {w : World} {Y : Nat} {v0 v1 v2 : Value} {ty : TypeId} (h : w.heap[Y]? = some (.cells #[v0, v1, v2] ty (0, 0))) :
    w.cell? ⟨Y, 0, none⟩ = some v0 ∧ w.cell? ⟨Y, 1, none⟩ = some v1 ∧ w.cell? ⟨Y, 2, none⟩ = some v2 := by
  refine ⟨?_, ?_, ?_⟩
  all_goals (rw [Lib.cell_of_heap h]; rfl)
theorem itoaB_any (x : Int) (h0 : -9223372036854775808 ≤ x) (h1 : x ≤ 9223372036854775807) (w : World) (h : ShowTabs w) : Calls Tryz.prog 38 #[.int .i64 x] w fun e w' => e = .returned (.string ⟨(Lib.itoa x).toArray⟩) ∧ Below w.heap.size w w' := by
  refine (Tryz.strconv_Itoa x h0 h1 w h.2.2.2).mono ?_
  rintro e w' ⟨rfl, k, os, rfl⟩
  exact ⟨rfl, Lib.below_grow _ _ (Nat.le_refl _) _ _⟩
set_option maxHeartbeats 16000000 in
set_option maxRecDepth 100000 in
theorem show_any (p : List PS) (w : World) (A : Option Addr) (c : Nat) (hp : StepRd w (.slice A p.length c) p) (hk : ∀ s ∈ p, s.1.length ≤ 600 ∧ -9223372036854775808 ≤ s.2.1 ∧ s.2.1 ≤ 9223372036854775807) (hT : ShowTabs w) :
    Calls Tryz.prog 14 #[.slice A p.length c] w fun e w' => e = .returned (.tuple #[strV (showM p).1, .int .i64 (showM p).2]) ∧ Below w.heap.size w w' := by
  have hbd := Rd.bound hp
  have HP := Lib.hid hp
  have HTB := Lib.hid (fun (V : World) (hV : Below w.heap.size w V) => hT.below hV)
  have HK := Lib.hid hk
  obtain ⟨n, hn⟩ : ∃ n, n = p.length := ⟨_, rfl⟩
  rw [← hn] at hbd ⊢
  have HN := Lib.hid hn
  clear hp hT hk hn
  unfold strV
  go_enter Tryz.func14, Tryz.ntmps14
  by_cases h64 : (64 : Int) < (n : Int)
  · go_wp2_with fail
    (refine bodyPost_ret (v := .tuple #[.string ⟨#[]⟩, .int .i64 5]) (by simp [results, Tryz.results14, go_sem, *]) rfl ?_)
    refine ⟨?_, Below.refl _ _⟩
    have e : showM p = ([], 5) := by unfold showM; rw [if_pos (by have := HN.out; omega)]
    rw [e]
  · have hn64 : n ≤ 64 := by omega
    go_upto_region 4 with fail
    refine wp_named (fun wn => BOk w.heap.size wn w.heap.size [] (.pointer none) (.slice none 0 0) ∧ Below w.heap.size w wn ∧ w.heap.size < wn.heap.size) ⟨⟨Nat.le_refl _, heap_alloc_new _ _, .inl rfl, World.ownsRow_nil _ _ _ 1, by simp [Value.ownBlock]⟩, (Below.refl _ w).alloc (Nat.le_refl _) _, by simp⟩ ?_
    rintro wn ⟨h1, hb1, hRn⟩
    have H1 := Lib.hid h1
    have HB1 := Lib.hid hb1
    clear h1 hb1
    go_wp2_with fail
    go_loopw [14] (fun i wr => ∃ (k : Nat) (o : List UInt8) (addr buf : Value), k ≤ n ∧ i = .int .i64 k ∧ BOk w.heap.size wr w.heap.size o addr buf ∧ Below w.heap.size w wr ∧ Hid (ShowPre p k o) ∧ (k = 0 → o = [] ∧ buf = .slice none 0 0) ∧ o.length ≤ k * 4000) (fun i _ => n - (intOf i).toNat)
    case atStart => exact ⟨0, [], _, _, by omega, rfl, H1.out, HB1.out, Lib.hid ⟨rfl, rfl⟩, fun _ => ⟨rfl, rfl⟩, by simp⟩
    case round =>
      rename_i wr
      clear H1 HB1
      obtain ⟨k, o, addr, buf, hkn, rfl, hB, hb, HG, h0, hol⟩ := hrel
      by_cases h1 : k < n
      · have h1' : (k : Int) < (n : Int) := by omega
        have hkl : k < p.length := by rw [← HN.out]; exact h1
        have hl64 : p.length ≤ 64 := by rw [← HN.out]; exact hn64
        have hSt : StepRd w (.slice A n c) p := by
          have := HP.out
          have e := HN.out
          rw [← e] at this
          exact this
        obtain ⟨b, ob, rfl, hblt, hblr, s0, s1, s2⟩ := hSt.at_ hb k hkl
        have hKk := HK.out _ (List.getElem_mem hkl)
        obtain ⟨st, hst⟩ : ∃ st, p[k] = st := ⟨_, rfl⟩
        have HST := Lib.hid hst
        rw [hst] at s0 s1 s2 hKk
        obtain ⟨key, at_, by_⟩ := st
        dsimp only at s0 s1 s2 hKk
        obtain ⟨hkl1, hkl2, hkl3⟩ := hKk
        have hR := hB.lt
        clear hst hSt h0
        have HB0 := Lib.hid hB
        have HBB := Lib.hid hb
        go_upto_region 7 with fail
        refine wp_named (fun wn => wn.heap[wr.heap.size]? = some (.cells #[.string ⟨key.toArray⟩, .int .i64 at_, .bool by_] 50 (0, 0)) ∧ Below wr.heap.size wr wn) ⟨?rowK, ?belowK⟩ ?_
        case rowK => exact heap_alloc_new _ _
        case belowK => exact (Below.refl _ wr).alloc (Nat.le_refl _) _
        rintro wK ⟨hrK, hbK⟩
        have hzK : wr.heap.size < wK.heap.size := row_lt hrK
        have HI := Lib.hid (itoaB_any at_ hkl2 hkl3 wK (HTB.out _ (HBB.out.trans (hbK.mono HBB.out.size))))
        have HRK := Lib.hid hrK
        have HJ0 := Lib.hid (show BOk w.heap.size wK w.heap.size o addr buf ∧ Below w.heap.size w wK from ⟨HB0.out.below hbK, HBB.out.trans (hbK.mono HBB.out.size)⟩)
        obtain ⟨y0, y1, y2⟩ := cells3 hrK
        clear hrK hbK hB hb s0 s1 s2
        go_wp2_with fail
        refine HI.out.mono ?_
        rintro e w1 ⟨rfl, hb1⟩
        have HR1 := Lib.hid ((hb1.block _ hzK).trans HRK.out)
        have HJ1 := Lib.hid (show BOk w.heap.size w1 w.heap.size o addr buf ∧ Below w.heap.size w w1 from ⟨HJ0.out.1.below hb1, HJ0.out.2.trans (hb1.mono HJ0.out.2.size)⟩)
        obtain ⟨y0, y1, y2⟩ := cells3 HR1.out
        clear HI HRK HJ0 hb1
        have HCK := Lib.hid (fun (V : World) => keyck_any key V)
        unfold strV at HCK
        have HQT := Lib.hid (fun (V : World) (hV : Below w.heap.size w V) => quotE_any key (by omega) V (HTB.out _ hV).1)
        unfold strV at HQT
        have hol2 : o.length ≤ 1099511627776 := by omega
        have HJ := HJ1
        clear HJ1
        cases by_
        · by_cases hk0 : key = []
          · subst hk0
            have hke : keyE [] = 0 := by decide
            simp only [hke] at HCK
            by_cases hr : 0 ≤ at_ ∧ at_ ≤ 999999999
            · have HOK := Lib.hid (show stepOK ([], at_, false) = true by simp [stepOK, hr])
              obtain ⟨r1, r2⟩ := hr
              have HLN := Lib.hid (Lib.itoa_length_le at_ hkl2 hkl3)
              go_wp2_with (go_at_call 40; refine (HCK.out _).mono ?_; rintro e w2 ⟨rfl, rfl⟩)
              go_wp2_with fail
              refine (bwriteB_any 91 hol2 HJ.out.1).mono ?_
              rintro e w4 ⟨rfl, ⟨buf4, h4⟩, hb4, -⟩
              have H4 := Lib.hid (And.intro h4 (HJ.out.2.trans hb4))
              clear h4 hb4
              have hws := bwriteS_any (Lib.itoa at_) (by have := HLN.out; omega) (by rw [List.length_append]; simp; omega) H4.out.1
              unfold strV at hws
              have HWS := Lib.hid hws
              clear hws
              go_wp2_with fail
              refine HWS.out.mono ?_
              rintro e w5 ⟨rfl, ⟨buf5, h5⟩, hb5, -⟩
              have H5 := Lib.hid (And.intro h5 (H4.out.2.trans hb5))
              clear h5 hb5
              go_wp2_with fail
              refine (bwriteB_any 93 (by rw [List.length_append, List.length_append]; simp; have := HLN.out; omega) H5.out.1).mono ?_
              rintro e w6 ⟨rfl, ⟨buf6, h6⟩, hb6, -⟩
              have H6 := Lib.hid (And.intro h6 (H5.out.2.trans hb6))
              clear h6 hb6
              have q1 : IntKind.i64.wrap ((k : Int) + 1) = (k : Int) + 1 := IntWalk.i64_in _ (by omega)
              go_wp2_with fail
              go_roundw
              case rel => exact ⟨k + 1, _, _, _, by omega, rfl, H6.out.1, H6.out.2, Lib.hid (HG.out.next hkl HST.out HOK.out (by simp [stepT])), fun e => absurd e (by omega), by simp only [List.length_append, List.length_cons, List.length_nil]; have := HLN.out; omega⟩
              case measure => simp only [intOf]; omega
            · have HOK := Lib.hid (show stepOK ([], at_, false) = false by simp [stepOK]; omega)
              by_cases r1 : at_ < 0
              · go_wp2_with (go_at_call 40; refine (HCK.out _).mono ?_; rintro e w2 ⟨rfl, rfl⟩)
                (refine bodyPost_ret (v := .tuple #[.string ⟨#[]⟩, .int .i64 2]) (by simp [results, Tryz.results14, go_sem, *]) rfl ?_)
                exact ⟨by rw [HG.out.bad hl64 hkl HST.out HOK.out], HJ.out.2⟩
              · have r2 : 999999999 < at_ := by omega
                go_wp2_with (go_at_call 40; refine (HCK.out _).mono ?_; rintro e w2 ⟨rfl, rfl⟩)
                (refine bodyPost_ret (v := .tuple #[.string ⟨#[]⟩, .int .i64 2]) (by simp [results, Tryz.results14, go_sem, *]) rfl ?_)
                exact ⟨by rw [HG.out.bad hl64 hkl HST.out HOK.out], HJ.out.2⟩
          · have HOK := Lib.hid (show stepOK (key, at_, false) = false by simp [stepOK, hk0])
            by_cases hz : 0 ≤ Lib.indexByte key 0
            · have hke : keyE key = 70 := if_pos hz
              simp only [hke] at HCK
              go_wp2_with (go_at_call 40; refine (HCK.out _).mono ?_; rintro e w2 ⟨rfl, rfl⟩)
              (refine bodyPost_ret (v := .tuple #[.string ⟨#[]⟩, .int .i64 2]) (by simp [results, Tryz.results14, go_sem, *]) rfl ?_)
              exact ⟨by rw [HG.out.bad hl64 hkl HST.out HOK.out], HJ.out.2⟩
            · have hke : keyE key = 0 := if_neg hz
              simp only [hke] at HCK
              have hkn : (⟨key.toArray⟩ : ByteArray) ≠ ⟨#[]⟩ := by
                intro e
                injection e with e
                exact hk0 (by simpa using congrArg Array.toList e)
              have hkl' : key.length ≠ 0 := fun e => hk0 (List.length_eq_zero_iff.1 e)
              go_wp2_with (go_at_call 40; refine (HCK.out _).mono ?_; rintro e w2 ⟨rfl, rfl⟩)
              (refine bodyPost_ret (v := .tuple #[.string ⟨#[]⟩, .int .i64 2]) (by simp [results, Tryz.results14, go_sem, *]) rfl ?_)
              exact ⟨by rw [HG.out.bad hl64 hkl HST.out HOK.out], HJ.out.2⟩
        · by_cases hv : Lib.validD key = true
          · have hq : quoE key = (quoL' key, 0) := if_pos hv
            simp only [hq] at HQT
            have HLN := Lib.hid (quoL_len key)
            generalize hqk : quoL' key = qk at *
            go_wp2_with fail
            refine (HQT.out _ HJ.out.2).mono ?_
            rintro e wq ⟨rfl, hbq⟩
            have HJ2 := Lib.hid (show BOk w.heap.size wq w.heap.size o addr buf ∧ Below w.heap.size w wq from ⟨HJ.out.1.below hbq, HJ.out.2.trans (hbq.mono HJ.out.2.size)⟩)
            have HR2 := Lib.hid ((hbq.block _ (row_lt HR1.out)).trans HR1.out)
            obtain ⟨y0, y1, y2⟩ := cells3 HR2.out
            clear HJ HR1 hbq HQT
            have HJ := HJ2
            clear HJ2
            by_cases hz : 0 ≤ Lib.indexByte key 0
            · have HOK := Lib.hid (show stepOK (key, at_, true) = false by simp [stepOK]; omega)
              have hke : keyE key = 70 := if_pos hz
              simp only [hke] at HCK
              go_wp2_with (go_at_call 40; refine (HCK.out _).mono ?_; rintro e w2 ⟨rfl, rfl⟩)
              (refine bodyPost_ret (v := .tuple #[.string ⟨#[]⟩, .int .i64 2]) (by simp [results, Tryz.results14, go_sem, *]) rfl ?_)
              exact ⟨by rw [HG.out.bad hl64 hkl HST.out HOK.out], HJ.out.2⟩
            · have hke : keyE key = 0 := if_neg hz
              simp only [hke] at HCK
              by_cases ha : at_ = 0
              · have HOK := Lib.hid (show stepOK (key, at_, true) = true by simp [stepOK, hv, ha]; omega)
                have HTX := Lib.hid (show stepT (key, at_, true) = 91 :: (qk ++ [93]) by simp [stepT, hqk])
                subst ha
                go_wp2_with (go_at_call 40; refine (HCK.out _).mono ?_; rintro e w2 ⟨rfl, rfl⟩)
                go_wp2_with fail
                refine (bwriteB_any 91 hol2 HJ.out.1).mono ?_
                rintro e w4 ⟨rfl, ⟨buf4, h4⟩, hb4, -⟩
                have H4 := Lib.hid (And.intro h4 (HJ.out.2.trans hb4))
                clear h4 hb4
                have hws := bwriteS_any qk (by have := HLN.out; omega) (by rw [List.length_append]; simp; omega) H4.out.1
                unfold strV at hws
                have HWS := Lib.hid hws
                clear hws
                go_wp2_with fail
                refine HWS.out.mono ?_
                rintro e w5 ⟨rfl, ⟨buf5, h5⟩, hb5, -⟩
                have H5 := Lib.hid (And.intro h5 (H4.out.2.trans hb5))
                clear h5 hb5
                go_wp2_with fail
                refine (bwriteB_any 93 (by rw [List.length_append, List.length_append]; simp; have := HLN.out; omega) H5.out.1).mono ?_
                rintro e w6 ⟨rfl, ⟨buf6, h6⟩, hb6, -⟩
                have H6 := Lib.hid (And.intro h6 (H5.out.2.trans hb6))
                clear h6 hb6
                have q1 : IntKind.i64.wrap ((k : Int) + 1) = (k : Int) + 1 := IntWalk.i64_in _ (by omega)
                go_wp2_with fail
                go_roundw
                case rel => exact ⟨k + 1, _, _, _, by omega, rfl, H6.out.1, H6.out.2, Lib.hid (HG.out.next hkl HST.out HOK.out (by rw [HTX.out]; simp)), fun e => absurd e (by omega), by simp only [List.length_append, List.length_cons, List.length_nil]; have := HLN.out; omega⟩
                case measure => simp only [intOf]; omega
              · have HOK := Lib.hid (show stepOK (key, at_, true) = false by simp [stepOK, ha])
                go_wp2_with (go_at_call 40; refine (HCK.out _).mono ?_; rintro e w2 ⟨rfl, rfl⟩)
                (refine bodyPost_ret (v := .tuple #[.string ⟨#[]⟩, .int .i64 2]) (by simp [results, Tryz.results14, go_sem, *]) rfl ?_)
                exact ⟨by rw [HG.out.bad hl64 hkl HST.out HOK.out], HJ.out.2⟩
          · have HOK := Lib.hid (show stepOK (key, at_, true) = false by simp [stepOK, hv])
            have hq : quoE key = ([], 40) := if_neg hv
            simp only [hq] at HQT
            go_wp2_with fail
            refine (HQT.out _ HJ.out.2).mono ?_
            rintro e wq ⟨rfl, hbq⟩
            have HJ2 := Lib.hid (show BOk w.heap.size wq w.heap.size o addr buf ∧ Below w.heap.size w wq from ⟨HJ.out.1.below hbq, HJ.out.2.trans (hbq.mono HJ.out.2.size)⟩)
            have HR2 := Lib.hid ((hbq.block _ (row_lt HR1.out)).trans HR1.out)
            obtain ⟨y0, y1, y2⟩ := cells3 HR2.out
            clear HJ HR1 hbq HQT
            have HJ := HJ2
            clear HJ2
            go_wp2_with fail
            (refine bodyPost_ret (v := .tuple #[.string ⟨#[]⟩, .int .i64 2]) (by simp [results, Tryz.results14, go_sem, *]) rfl ?_)
            exact ⟨by rw [HG.out.bad hl64 hkl HST.out HOK.out], HJ.out.2⟩
      · have hkn2 : k = n := by omega
        subst hkn2
        have h1' : ¬ (k : Int) < (k : Int) := by omega
        have hB2 := Lib.hid hB
        have hb2 := Lib.hid hb
        have HF := Lib.hid (show showM p = (o, 0) by
          have e := HN.out
          have g := HG.out
          rw [e] at g
          exact g.fin (by rw [← e]; exact hn64))
        by_cases hz : k = 0
        · obtain ⟨rfl, rfl⟩ := h0 hz
          have hs := bstring_nil hB.row
          unfold strV at hs
          have HS := Lib.hid hs
          clear hs hB hb
          go_wp2_with fail
          refine HS.out.mono ?_
          rintro e w2 ⟨rfl, hb3⟩
          go_wp2
          go_ret2
          exact ⟨by rw [HF.out]; rfl, hb2.out.trans (hb3.mono hb2.out.size)⟩
        · have hs := bstring_any (HG.out.nonempty (by omega) (by have := HN.out; omega)) hB
          unfold strV at hs
          have HS := Lib.hid hs
          clear hs hB hb
          go_wp2_with fail
          refine HS.out.mono ?_
          rintro e w2 ⟨rfl, hb3⟩
          go_wp2
          go_ret2
          exact ⟨by rw [HF.out]; rfl, hb2.out.trans hb3⟩
end Go.Proofs.YtlblddeemkefkaaGreatDoor
