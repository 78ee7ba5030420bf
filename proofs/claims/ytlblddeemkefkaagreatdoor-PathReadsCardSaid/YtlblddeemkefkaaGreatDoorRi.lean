/- The walk of the reference's Parse. -/
import Derived.Test.YtlblddeemkefkaaGreatDoorRh
namespace Go.Proofs.YtlblddeemkefkaaGreatDoor
set_option linter.unusedVariables false
set_option linter.unusedSimpArgs false
open Go.RowKit Go.Shelf
theorem one_cnt (l : List UInt8) (i k : Nat) (h : k ≠ 64) : oneM l i k = oneM l i 0 := by
  unfold oneM
  rw [if_neg h, if_neg (show ¬ ((0 : Nat) = 64) by decide)]
theorem end_bd (l : List UInt8) (i : Nat) (hi : i < l.length) (h : (endM l (oneM l i 0)).2.2.2 = 0) : (i : Int) + 1 ≤ (endM l (oneM l i 0)).2.1 ∧ (endM l (oneM l i 0)).2.1 < l.length ∧ (endM l (oneM l i 0)) = (oneM l i 0) := by
  have hb := one_bd l i 0 hi
  generalize oneM l i 0 = r at *
  unfold endM at h ⊢
  by_cases hc : r.2.2.2 = 0 ∧ (r.2.1 = (l.length : Int) ∨ l.getD r.2.1.toNat 0 ≠ 93)
  · rw [if_pos hc] at h
    exact absurd h (by simp [errS])
  · rw [if_neg hc] at h ⊢
    have := hb h
    refine ⟨this.1, ?_, rfl⟩
    rcases Int.lt_or_eq_of_le this.2 with e | e
    · exact e
    · exact absurd ⟨h, .inl e⟩ hc
set_option maxHeartbeats 16000000 in
set_option maxRecDepth 100000 in
theorem rparse_any (l : List UInt8) (w : World) (hl : l.length ≤ 1048576) :
    Calls Tryz.prog 20 #[strV l] w fun e w' => ParsePost w (parseM l) e w' ∧ Below w.heap.size w w' := by
  have hs : (⟨l.toArray⟩ : ByteArray).size = l.length := by simp [ByteArray.size]
  obtain ⟨n, hn⟩ : ∃ n, n = l.length := ⟨_, rfl⟩
  have HN := Lib.hid hn
  rw [← hn] at hl hs
  clear hn
  unfold strV
  go_enter Tryz.func20, Tryz.ntmps20
  go_wp2_with fail
  go_loopw [5, 6] (fun s5 s6 wr => ∃ (f i : Nat) (acc : List PS) (A : Option Addr) (c : Nat), s5 = .slice A acc.length c ∧ s6 = .int .i64 i ∧ i ≤ n ∧ SRow w.heap.size wr (.slice A acc.length c) acc ∧ Below w.heap.size w wr ∧ Hid (parseF l f i acc = parseM l) ∧ n + 1 ≤ i + f ∧ acc.length ≤ 64) (fun _ s6 _ => n - (intOf s6).toNat)
  case atStart => exact ⟨n + 1, 0, [], none, 0, rfl, rfl, by omega, SRow.nil _ _, Below.refl _ _, Lib.hid (by rw [HN.out]; rfl), by omega, by simp⟩
  case round =>
    rename_i wr
    obtain ⟨f, i, acc, A, c, rfl, rfl, hin, hSR, hbr, hF, hnf, hac⟩ := hrel
    have HSR := Lib.hid hSR
    have HBR := Lib.hid hbr
    clear hSR hbr
    by_cases h1 : i < n
    · have h1' : (i : Int) < (n : Int) := by omega
      by_cases hA : acc.length = 64
      · have HRES := Lib.hid (parse_err hF.out (by have := HN.out; omega) (by omega) (r := errS i 5) (by rw [show oneM l i acc.length = errS i 5 from if_pos hA]; exact endM_err (by simp [errS])) (by simp [errS]))
        have hA' : ((acc.length : Nat) : Int) = 64 := by omega
        clear hA hF hnf
        go_wp2_with fail
        go_ret3
        rw [HRES.out]
        exact ⟨⟨_, _, rfl, SRow.nil _ _⟩, HBR.out⟩
      · have hA' : ¬ ((acc.length : Nat) : Int) = 64 := by omega
        have HA64 := Lib.hid hA
        have hone := one_cnt l i acc.length hA
        have HC := Lib.hid (rstep_any l i wr (by have := HN.out; omega) (by have := HN.out; omega))
        have hbd := end_bd l i (by have := HN.out; omega)
        obtain ⟨r, hr⟩ : ∃ r, endM l (oneM l i 0) = r := ⟨_, rfl⟩
        rw [hr] at HC hbd
        have HR := Lib.hid (show endM l (oneM l i acc.length) = r by rw [hone, hr])
        obtain ⟨⟨ky, ia, bk⟩, en, pl, er⟩ := r
        dsimp only at hbd
        unfold stepO strV at HC
        dsimp only at HC
        clear hone hr hA
        by_cases he : er = 0
        · subst he
          obtain ⟨hen1, hen2, -⟩ := hbd rfl
          obtain ⟨m, rfl⟩ : ∃ m : Nat, en = (m : Int) := ⟨en.toNat, by omega⟩
          have hmn : m < n := by have := HN.out; omega
          rw [if_pos rfl, show (m : Int) + 1 = ((m + 1 : Nat) : Int) from rfl] at HC
          have HGO := Lib.hid (parse_go hF.out (by have := HN.out; omega) (by omega) HR.out rfl)
          dsimp only at HGO
          rw [Int.toNat_natCast] at HGO
          obtain ⟨i0, hi, hz0, hz1, hz2⟩ := info_parts3 stepInfo
          have H63 : Hid (acc.length + 1 ≤ maxLen) := Lib.hid (by unfold maxLen; omega)
          have HBY : Hid ((acc.length + 1) * 32 ≤ 140737488355328) := Lib.hid (by omega)
          have hac2 : acc.length < 64 := by have := HA64.out; omega
          clear hbd hF
          go_wp2_with fail
          refine HC.out.mono ?_
          rintro e w1 ⟨rfl, hb1⟩
          have HB1 := Lib.hid hb1
          clear hb1 HC
          go_upto_region 9 with fail
          refine wp_named (fun wx => Below w1.heap.size w1 wx ∧ wx.heap[w1.heap.size]? = some (.cells #[.string ⟨ky.toArray⟩, .int .i64 ia, .bool bk] 50 (0, 0))) ⟨(Below.refl _ w1).alloc (Nat.le_refl _) _, heap_alloc_new _ _⟩ ?_
          rintro wx ⟨hbx, h7⟩
          have hbm := HB1.out.trans (hbx.mono HB1.out.size)
          have HSX := Lib.hid (HSR.out.keep (fun k _ b => hbm.block k b))
          have HBX := Lib.hid (HBR.out.trans (hbm.mono HBR.out.size))
          obtain ⟨z0, z1, z2⟩ := at3 h7
          have own1 := Lib.hid (fun (W : World) (h : Below wx.heap.size wx W) => (World.ownsRow.mono (HSX.out.keep (fun k _ b => h.block k b)) (Nat.zero_le _) : W.ownsRow 0 50 3 (.slice A acc.length c) acc.length (acc.flatMap stepC)))
          generalize w1.heap.size = P7 at h7 z0 z1 z2 ⊢
          clear hbx hbm h7 HSR HBR HB1
          go_wp2_with (at_builtin; refine wpList_append_where (P := Tryz.prog) _ rfl (.tmp 31) (.tmp 33) 22 rfl 50 i0 (.agg #[.string ⟨#[]⟩, .int .i64 0, .bool false]) 3 32 Tryz.underlying22 hi hz0 hz1 hz2 rfl (by decide) (.slice A acc.length c) acc.length (acc.flatMap stepC) rfl (own1.out _ ((Below.refl _ _).alloc (Nat.le_refl _) _)) ⟨wx.heap.size, 0, none⟩ 1 1 [.string ⟨ky.toArray⟩, .int .i64 ia, .bool bk] rfl rfl (row_at (heap_alloc_new _ _)) step_one H63.out HBY.out ?_; intro v' w3 ho hg hwh; have hfin := Lib.hid (SRow.step (t := (ky, ia, bk)) HSX.out HBX.out.size ((Below.refl _ _).alloc (Nat.le_refl _) _) ho hg hwh); obtain ⟨A', c', rfl⟩ := owns_ptr hfin.out.1; clear ho hg hwh)
          have HFB := Lib.hid (HBX.out.trans hfin.out.2)
          go_roundw
          case rel => exact ⟨f - 1, m + 1, acc ++ [(ky, ia, bk)], A', c', by rw [List.length_append]; rfl, rfl, by omega, hfin.out.1, HFB.out, HGO.out, by omega, by rw [List.length_append, List.length_cons, List.length_nil]; omega⟩
          case measure => simp only [intOf]; omega
        · have HRES := Lib.hid (parse_err hF.out (by have := HN.out; omega) (by omega) HR.out he)
          have m5 : (er != 0) = true := by simpa using he
          rw [if_neg he] at HC
          dsimp only at HRES
          clear hbd hF he
          go_wp2_with fail
          refine HC.out.mono ?_
          rintro e w1 ⟨rfl, hb1⟩
          have HFIN := Lib.hid (HBR.out.trans (hb1.mono HBR.out.size))
          clear hb1
          go_wp2_with fail
          go_ret3
          rw [HRES.out]
          exact ⟨⟨_, _, rfl, SRow.nil _ _⟩, HFIN.out.alloc (by have := HFIN.out.size; omega) _⟩
    · have h1' : ¬ (i : Int) < (n : Int) := by omega
      have HRES := Lib.hid (show parseM l = (acc, 0, 0) by
        rw [← hF.out]
        obtain ⟨g, rfl⟩ : ∃ g, f = g + 1 := ⟨f - 1, by omega⟩
        rw [parseF, if_neg (by have := HN.out; omega)])
      clear hF
      go_wp2_with fail
      go_ret3
      rw [HRES.out]
      exact ⟨⟨_, _, rfl, HSR.out⟩, HBR.out⟩
end Go.Proofs.YtlblddeemkefkaaGreatDoor
