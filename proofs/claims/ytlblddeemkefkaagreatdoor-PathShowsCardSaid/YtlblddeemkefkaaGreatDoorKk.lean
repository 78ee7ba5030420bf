/- The walk of path.Parse. -/
import Derived.Test.YtlblddeemkefkaaGreatDoorKi
import Derived.Test.YtlblddeemkefkaaGreatDoorFa
import Derived.Deep.CutRange
import Derived.Deep.CutBlock
import Derived.WalkMore
import Derived.OwnWalk
import Derived.Deep.Onto
namespace Go.Proofs.YtlblddeemkefkaaGreatDoor
set_option linter.unusedVariables false
set_option linter.unusedSimpArgs false
open Go.RowKit Go.Shelf
/-- path.Parse's results. -/
def ParsePost (w : World) (r : List PS × Int × Int) (e : Ending) (w' : World) : Prop := ∃ A c, e = .returned (.tuple #[.slice A r.1.length c, .int .i64 r.2.1, .int .i64 r.2.2]) ∧ SRow w.heap.size w' (.slice A r.1.length c) r.1
/-- Behind a step's text: what it gave lies in its block, the rest stands. -/
def PCut (w wr wx : World) (l : List UInt8) (r : Said) : Prop :=
  wx.heap[w.heap.size + 1]? = some (.cells #[strV r.1.1, .int .i64 r.1.2.1, .bool r.1.2.2, .int .i64 r.2.1, .int .i64 r.2.2.1, .int .i64 r.2.2.2] 76 (0, 0)) ∧ Below w.heap.size w wx ∧ wr.heap.size ≤ wx.heap.size ∧ (∀ k, k < wr.heap.size → k ≠ w.heap.size + 1 → wx.heap[k]? = wr.heap[k]?)
theorem pcut_set {w wr wx : World} {l : List UInt8} {v0 v1 v2 v3 v4 v5 : Value} (h : wx.heap[w.heap.size + 1]? = some (.cells #[v0, v1, v2, v3, v4, v5] 76 (0, 0))) (hb : Below w.heap.size w wx) (hz : wr.heap.size ≤ wx.heap.size) (ho : ∀ k, k < wr.heap.size → k ≠ w.heap.size + 1 → wx.heap[k]? = wr.heap[k]?) (r : Said) :
    PCut w wr ((((((wx.setCell ⟨w.heap.size + 1, 0, none⟩ (.string ⟨r.1.1.toArray⟩)).setCell ⟨w.heap.size + 1, 1, none⟩ (.int .i64 r.1.2.1)).setCell ⟨w.heap.size + 1, 2, none⟩ (.bool r.1.2.2)).setCell ⟨w.heap.size + 1, 3, none⟩ (.int .i64 r.2.1)).setCell ⟨w.heap.size + 1, 4, none⟩ (.int .i64 r.2.2.1)).setCell ⟨w.heap.size + 1, 5, none⟩ (.int .i64 r.2.2.2)) l r := by
  refine ⟨row6_set h _ _ _ _ _ _, below_six hb (by omega) _ _ _ _ _ _, by simpa using hz, fun k hk hne => ?_⟩
  rw [← ho k hk hne]
  exact (touch6 (Y := w.heap.size + 1) (w := wx) _ _ _ _ _ _).block _ (Nat.lt_of_lt_of_le hk hz) (by simpa using hne)
theorem parse_err {l : List UInt8} {f i : Nat} {acc : List PS} {r : Said} (h : parseF l f i acc = parseM l) (hi : i < l.length) (hf : 0 < f) (hr : endM l (oneM l i acc.length) = r) (he : r.2.2.2 ≠ 0) : parseM l = ([], r.2.2.1, r.2.2.2) := by
  obtain ⟨g, rfl⟩ : ∃ g, f = g + 1 := ⟨f - 1, by omega⟩
  rw [← h, parseF, if_pos hi, hr, if_pos he]
theorem parse_go {l : List UInt8} {f i : Nat} {acc : List PS} {r : Said} (h : parseF l f i acc = parseM l) (hi : i < l.length) (hf : 0 < f) (hr : endM l (oneM l i acc.length) = r) (he : r.2.2.2 = 0) : parseF l (f - 1) (r.2.1.toNat + 1) (acc ++ [r.1]) = parseM l := by
  obtain ⟨g, rfl⟩ : ∃ g, f = g + 1 := ⟨f - 1, by omega⟩
  rw [← h]
  conv => rhs; rw [parseF, if_pos hi, hr, if_neg (by rw [he]; simp)]
  rfl
theorem endM_err {l : List UInt8} {r : Said} (h : r.2.2.2 ≠ 0) : endM l r = r := if_neg (fun a => h a.1)
theorem PCut.congr {w wr wx : World} {l : List UInt8} {r r' : Said} (h : PCut w wr wx l r) (e : r' = r) : PCut w wr wx l r' := e ▸ h
set_option maxHeartbeats 16000000 in
set_option maxRecDepth 100000 in
theorem parse_any (l : List UInt8) (w : World) (hl : l.length ≤ 1048576) (hT : NamTabs w) :
    Calls Tryz.prog 19 #[strV l] w fun e w' => ParsePost w (parseM l) e w' ∧ Below w.heap.size w w' := by
  have HTB := Lib.hid (fun (V : World) (hV : Below w.heap.size w V) => hT.below hV)
  have HX := Lib.hid (str_idx l)
  have hs : (⟨l.toArray⟩ : ByteArray).size = l.length := by simp [ByteArray.size]
  obtain ⟨n, hn⟩ : ∃ n, n = l.length := ⟨_, rfl⟩
  have HN := Lib.hid hn
  rw [← hn] at hl hs
  clear hT hn
  have hmf : ∀ (fn : Fn) (first cap : Array Value) (w : World), (Instr.makeFunc fn first cap).run Tryz.prog w = .ok (.func fn first cap) w := fun _ _ _ _ => rfl
  unfold strV
  go_enter Tryz.func19, Tryz.ntmps19
  go_upto_region 1 with fail
  refine wp_named (fun wn => Below w.heap.size w wn ∧ wn.heap[w.heap.size]? = some (.cells #[.string ⟨l.toArray⟩] 9 (0, 0)) ∧ wn.heap.size = w.heap.size + 1) ⟨(Below.refl _ w).alloc (Nat.le_refl _) _, heap_alloc_new _ _, by simp⟩ ?_
  rintro wn ⟨hbn, hpn, hzn⟩
  have HBN := Lib.hid hbn
  have HPN := Lib.hid hpn
  have HZN := Lib.hid hzn
  clear hbn hpn hzn
  go_step3
  go_wp2_with fail
  go_step3
  go_wp2_with fail
  rw [HZN.out]
  go_loopw [2, 7] (fun s2 s7 wr => ∃ (f i : Nat) (acc : List PS) (A : Option Addr) (c : Nat) (x0 : ByteArray) (x1 : Int) (x2 : Bool) (x3 x4 : Int), s2 = .slice A acc.length c ∧ s7 = .int .i64 i ∧ i ≤ n ∧ SRow (w.heap.size + 2) wr (.slice A acc.length c) acc ∧ wr.heap[w.heap.size]? = some (.cells #[.string ⟨l.toArray⟩] 9 (0, 0)) ∧ wr.heap[w.heap.size + 1]? = some (.cells #[.string x0, .int .i64 x1, .bool x2, .int .i64 x3, .int .i64 x4, .int .i64 0] 76 (0, 0)) ∧ Below w.heap.size w wr ∧ Hid (parseF l f i acc = parseM l) ∧ n + 1 ≤ i + f ∧ acc.length ≤ 64) (fun _ s7 _ => n - (intOf s7).toNat)
  case atStart =>
    refine ⟨n + 1, 0, [], none, 0, ⟨#[]⟩, 0, false, 0, 0, rfl, rfl, by omega, SRow.nil _ _, (Lib.alloc_old wn _ _ (by rw [HZN.out]; omega)).trans HPN.out, ?_, HBN.out.alloc HBN.out.size _, Lib.hid (by rw [HN.out]; rfl), by omega, by simp⟩
    have h := heap_alloc_new wn (.cells #[.string ⟨#[]⟩, .int .i64 0, .bool false, .int .i64 0, .int .i64 0, .int .i64 0] 76 (0, 0))
    rw [HZN.out] at h
    exact h
  case round =>
    rename_i wr
    obtain ⟨f, i, acc, A, c, x0, x1, x2, x3, x4, rfl, rfl, hin, hSR, hPr, hKr, hbr, hF, hnf, hac⟩ := hrel
    have hP0 : wr.cell? ⟨w.heap.size, 0, none⟩ = some (.string ⟨l.toArray⟩) := by rw [Lib.cell_of_heap hPr]; rfl
    by_cases h1 : i < n
    · have h1' : (i : Int) < (n : Int) := by omega
      have hzK : w.heap.size + 1 < wr.heap.size := row_lt hKr
      obtain ⟨z0, z1, z2, z3, z4, z5⟩ := at6 hKr
      have g0 := frozen_of_row _ _ 0 _ _ hKr
      have g1 := frozen_of_row _ _ 1 _ _ hKr
      have g2 := frozen_of_row _ _ 2 _ _ hKr
      have g3 := frozen_of_row _ _ 3 _ _ hKr
      have g4 := frozen_of_row _ _ 4 _ _ hKr
      have g5 := frozen_of_row _ _ 5 _ _ hKr
      have HKR := Lib.hid hKr
      have HBR := Lib.hid hbr
      have HPR := Lib.hid hPr
      have HSR := Lib.hid hSR
      have hx := HX.out i (by have := HN.out; omega)
      obtain ⟨j, hj⟩ : ∃ j, j = i + 1 := ⟨_, rfl⟩
      have q1 : IntKind.i64.wrap ((i : Int) + 1) = (j : Int) := by rw [IntWalk.i64_in _ (by omega)]; omega
      have hjn : j ≤ n := by omega
      have HJ := Lib.hid hj
      clear hj
      clear hKr hPr hSR hbr
      by_cases hA : acc.length = 64
      · have HRES := Lib.hid (parse_err hF.out (by have := HN.out; omega) (by omega) (r := errS i 5) (by rw [show oneM l i acc.length = errS i 5 from if_pos hA]; exact endM_err (by simp [errS])) (by simp [errS]))
        have hA' : ((acc.length : Nat) : Int) = 64 := by omega
        clear hA hF hnf
        go_upto_region 20 with fail
        refine wp_named (fun wn => PCut w wr wn l (errS i 5)) (pcut_set HKR.out HBR.out (Nat.le_refl _) (fun _ _ _ => rfl) (errS i 5)) ?_
        rintro wx hpc
        have HPC := Lib.hid hpc
        obtain ⟨z0, z1, z2, z3, z4, z5⟩ := at6 hpc.1
        dsimp only [errS] at z4 z5 HRES
        clear hpc g0 g1 g2 g3 g4 g5
        go_wp2_with fail
        go_quiet (fail)
        go_wp2_with fail
        rw [Exit.noGoto_ret]
        go_ret3
        rw [HRES.out]
        exact ⟨⟨_, _, rfl, SRow.nil _ _⟩, below_drewN HPC.out.2.1 _⟩
      · have hA' : ¬ ((acc.length : Nat) : Int) = 64 := by omega
        by_cases hB : l.getD i 0 = 91
        · have HB91 := Lib.hid hB
          have HA64 := Lib.hid hA
          have m0 : ((l.getD i 0).toNat : Int) = 91 := by rw [hB]; rfl
          rw [m0] at hx
          have hA3 : (((acc.length : Nat) : Int) == 64) = false := by rw [beq_eq_false_iff_ne]; exact hA'
          clear m0 hB hA hA'
          go_upto_block 3 with fail
          go_cut [7] from 32 to 59 (fun s7 wx => s7 = .int .i64 j ∧ PCut w wr wx l (oneM l i acc.length))
          case first =>
            have HDG := Lib.hid (fun (c : UInt8) (V : World) => pdigit_any c V)
            have HONE := Lib.hid (show oneM l i acc.length = if j < n ∧ digB (l.getD j 0) = true then placeM l j else if j < n ∧ l.getD j 0 = 34 then nameM l j else errS (j : Int) 4 by
              have a := HJ.out
              have b := HN.out
              subst a b
              unfold oneM
              rw [if_neg HA64.out, if_neg (fun e => e HB91.out)])
            clear hF
            by_cases h2 : j < n
            · have h2' : (j : Int) < (n : Int) := by omega
              have hx2 := HX.out j (by have := HN.out; omega)
              cases hd : digB (l.getD j 0)
              case true =>
                have HP1 := Lib.hid (place_any l j w.heap.size wr (by omega) (by unfold strV; exact hP0) (by have := HN.out; omega) (by have := HN.out; omega) hd)
                have HE := Lib.hid (show oneM l i acc.length = placeM l j by rw [HONE.out, if_pos ⟨h2, hd⟩])
                have HDJ := Lib.hid (fun (V : World) => pdigit_any (l.getD j 0) V)
                rw [hd] at HDJ
                generalize placeM l j = r at *
                obtain ⟨⟨ky, ia, bk⟩, en, pl, er⟩ := r
                unfold saidV strV at HP1
                dsimp only at HP1
                clear HONE hd
                generalize l.getD j 0 = c at *
                go_wp2_with (go_at_call 49; refine (HDJ.out _).mono ?_; rintro e w2 ⟨rfl, rfl⟩)
                go_at_call 48
                refine HP1.out.mono ?_
                rintro e w3 ⟨rfl, hb3⟩
                have hK3 := (hb3.block _ hzK).trans HKR.out
                have HK3 := Lib.hid hK3
                obtain ⟨z0, z1, z2, z3, z4, z5⟩ := at6 hK3
                have g0 := frozen_of_row _ _ 0 _ _ hK3
                have g1 := frozen_of_row _ _ 1 _ _ hK3
                have g2 := frozen_of_row _ _ 2 _ _ hK3
                have g3 := frozen_of_row _ _ 3 _ _ hK3
                have g4 := frozen_of_row _ _ 4 _ _ hK3
                have g5 := frozen_of_row _ _ 5 _ _ hK3
                have HB3 := Lib.hid hb3
                clear hK3 hb3 HP1
                go_wp2_with fail
                go_meet
                exact ⟨rfl, (pcut_set HK3.out (HBR.out.trans (HB3.out.mono HBR.out.size)) HB3.out.size (fun k hk _ => HB3.out.block k hk) ((ky, ia, bk), en, pl, er)).congr HE.out⟩
              case false =>
                have HDJ := Lib.hid (fun (V : World) => pdigit_any (l.getD j 0) V)
                rw [hd] at HDJ
                by_cases hq : l.getD j 0 = 34
                · have hub := unq_bd (l.drop j)
                  have hdl : (l.drop j).length = l.length - j := List.length_drop
                  have HP1 := Lib.hid (name_any l j w.heap.size wr (by omega) (by unfold strV; exact hP0) (by have := HN.out; omega) (by have := HN.out; omega) (HTB.out _ HBR.out) (by have := HN.out; omega) (by have := HN.out; omega))
                  have HE := Lib.hid (show oneM l i acc.length = nameM l j by rw [HONE.out, if_neg (fun a => by rw [hd] at a; cases a.2), if_pos ⟨h2, hq⟩])
                  have m0 : ((l.getD j 0).toNat : Int) = 34 := by rw [hq]; rfl
                  rw [m0] at hx2
                  rw [hq] at HDJ
                  generalize nameM l j = r at *
                  obtain ⟨⟨ky, ia, bk⟩, en, pl, er⟩ := r
                  unfold saidV strV at HP1
                  dsimp only at HP1
                  have HDK : Hid (∀ V : World, Calls Tryz.prog 49 #[.int .u8 34] V fun e w' => e = .returned (.bool false) ∧ w' = V) := HDJ
                  clear HONE hd hq m0 hub hdl HDJ
                  go_wp2_with (go_at_call 49; refine (HDK.out _).mono ?_; rintro e w2 ⟨rfl, rfl⟩)
                  go_at_call 51
                  refine HP1.out.mono ?_
                  rintro e w3 ⟨rfl, hb3⟩
                  have hK3 := (hb3.block _ hzK).trans HKR.out
                  have HK3 := Lib.hid hK3
                  obtain ⟨z0, z1, z2, z3, z4, z5⟩ := at6 hK3
                  have g0 := frozen_of_row _ _ 0 _ _ hK3
                  have g1 := frozen_of_row _ _ 1 _ _ hK3
                  have g2 := frozen_of_row _ _ 2 _ _ hK3
                  have g3 := frozen_of_row _ _ 3 _ _ hK3
                  have g4 := frozen_of_row _ _ 4 _ _ hK3
                  have g5 := frozen_of_row _ _ 5 _ _ hK3
                  have HB3 := Lib.hid hb3
                  clear hK3 hb3 HP1
                  go_wp2_with fail
                  go_meet
                  exact ⟨rfl, (pcut_set HK3.out (HBR.out.trans (HB3.out.mono HBR.out.size)) HB3.out.size (fun k hk _ => HB3.out.block k hk) ((ky, ia, bk), en, pl, er)).congr HE.out⟩
                · have HE := Lib.hid (show oneM l i acc.length = errS j 4 by rw [HONE.out, if_neg (fun a => by rw [hd] at a; cases a.2), if_neg (fun a => hq a.2)])
                  have m0 : ¬ ((l.getD j 0).toNat : Int) = 34 := fun e => hq (UInt8.toNat.inj (by show (l.getD j 0).toNat = 34; omega))
                  clear HONE hd hq
                  generalize l.getD j 0 = c at *
                  go_wp2_with (go_at_call 49; refine (HDJ.out _).mono ?_; rintro e w2 ⟨rfl, rfl⟩)
                  go_meet
                  exact ⟨rfl, (pcut_set HKR.out HBR.out (Nat.le_refl _) (fun _ _ _ => rfl) (errS j 4)).congr HE.out⟩
            · have h2' : ¬ (j : Int) < (n : Int) := by omega
              have HE := Lib.hid (show oneM l i acc.length = errS j 4 by rw [HONE.out, if_neg (fun a => h2 a.1), if_neg (fun a => h2 a.1)])
              clear HONE
              go_wp2_with fail
              go_meet
              exact ⟨rfl, (pcut_set HKR.out HBR.out (Nat.le_refl _) (fun _ _ _ => rfl) (errS j 4)).congr HE.out⟩
          case rest =>
            obtain ⟨rfl, hpc⟩ := hcut
            have hone := one_bd l i acc.length (by have := HN.out; omega)
            generalize hr : oneM l i acc.length = r at *
            have HR := Lib.hid hr
            obtain ⟨⟨ky, ia, bk⟩, en, pl, er⟩ := r
            dsimp only at hone
            have HPW := Lib.hid hpc
            have hKc := hpc.1
            dsimp only at hKc
            unfold strV at hKc
            obtain ⟨z0, z1, z2, z3, z4, z5⟩ := at6 hKc
            have g0 := frozen_of_row _ _ 0 _ _ hKc
            have g1 := frozen_of_row _ _ 1 _ _ hKc
            have g2 := frozen_of_row _ _ 2 _ _ hKc
            have g3 := frozen_of_row _ _ 3 _ _ hKc
            have g4 := frozen_of_row _ _ 4 _ _ hKc
            have g5 := frozen_of_row _ _ 5 _ _ hKc
            have hzc := hpc.2.2.1
            have hPc := (hpc.2.2.2 w.heap.size (by omega) (by omega)).trans HPR.out
            have hP0c : wc.cell? ⟨w.heap.size, 0, none⟩ = some (.string ⟨l.toArray⟩) := by rw [Lib.cell_of_heap hPc]; rfl
            clear hpc hKc hr hPc hP0
            by_cases he : er = 0
            · subst he
              obtain ⟨hen1, hen2⟩ := hone rfl
              obtain ⟨m, rfl⟩ : ∃ m : Nat, en = (m : Int) := ⟨en.toNat, by omega⟩
              have hmn : m ≤ n := by have := HN.out; omega
              by_cases hm : m < n
              · have hm1 : ((m : Int) == (n : Int)) = false := by rw [beq_eq_false_iff_ne]; omega
                have hxm := HX.out m (by have := HN.out; omega)
                by_cases hc : l.getD m 0 = 93
                · have HGO := Lib.hid (parse_go hF.out (by have := HN.out; omega) (by omega) (r := ((ky, ia, bk), (m : Int), pl, 0)) (by rw [HR.out]; exact if_neg (fun a => a.2.elim (fun e => by have := HN.out; dsimp only at e; omega) (fun e => e (by simpa using hc)))) rfl)
                  have m0 : ((l.getD m 0).toNat : Int) = 93 := by rw [hc]; rfl
                  rw [m0] at hxm
                  have hac2 : acc.length < 64 := by have := HA64.out; omega
                  have q2 : IntKind.i64.wrap ((m : Int) + 1) = ((m + 1 : Nat) : Int) := by rw [IntWalk.i64_in _ (by omega)]; rfl
                  obtain ⟨i0, hi, hz0, hz1, hz2⟩ := info_parts3 stepInfo
                  have hSW : SRow (w.heap.size + 2) wc (.slice A acc.length c) acc := HSR.out.keep (fun k a b => HPW.out.2.2.2 k b (by omega))
                  have own1 := Lib.hid (fun (W : World) (h : Below wc.heap.size wc W) => (World.ownsRow.mono (hSW.keep (fun k _ b => h.block k b)) (Nat.zero_le _) : W.ownsRow 0 50 3 (.slice A acc.length c) acc.length (acc.flatMap stepC)))
                  have HSW := Lib.hid hSW
                  have H63 : Hid (acc.length + 1 ≤ maxLen) := Lib.hid (by unfold maxLen; omega)
                  have HBY : Hid ((acc.length + 1) * 32 ≤ 140737488355328) := Lib.hid (by omega)
                  have hne1 : (Value.slice A acc.length c).ownBlock ≠ some (w.heap.size + 1) := by
                    intro h
                    have := (hSW.lt _ h).1
                    omega
                  have hzKc : w.heap.size + 1 < wc.heap.size := by omega
                  have hmn1 : m + 1 ≤ n := by omega
                  clear hc hF hone hm m0 hSW
                  go_upto_region 19 with fail
                  go_region_law ((first | (refine step_append_where rfl (.tmp 83) (.tmp 86) 22 rfl 50 i0 (.agg #[.string ⟨#[]⟩, .int .i64 0, .bool false]) 3 32 Tryz.underlying22 hi hz0 hz1 hz2 rfl (by decide) (.slice A acc.length c) acc.length (acc.flatMap stepC) rfl (own1.out _ (((Below.refl _ _).drew).alloc (by simp) _)) ⟨wc.heap.size, 0, none⟩ 1 1 [.string ⟨ky.toArray⟩, .int .i64 ia, .bool bk] rfl rfl (row_at (heap_alloc_new _ _)) step_one H63.out HBY.out ?_; intro v' w3 ho hg hwh; have k1 : w3.cell? ⟨w.heap.size + 1, 3, none⟩ = some (.int .i64 m) := (hg.cell (a := ⟨w.heap.size + 1, 3, none⟩) ((((Below.refl _ _).drew.alloc (Nat.le_refl _) _).cell (p := ⟨w.heap.size + 1, 3, none⟩) (Nat.lt_of_lt_of_le hzK hzc)).trans z3) (fun e => hne1 e.symm)); have hfin := Lib.hid (SRow.step (t := (ky, ia, bk)) HSW.out (by omega) (((Below.refl _ _).drew).alloc (Nat.le_refl _) _) ho hg hwh); have hgk := Lib.hid (hg.block (w.heap.size + 1) (Nat.lt_of_lt_of_le (Nat.lt_of_lt_of_le hzK hzc) (by simp)) (fun e => hne1 e.symm)); clear ho hg hwh)))
                  all_goals
                    obtain ⟨A', c', rfl⟩ := owns_ptr hfin.out.1
                    have hKB : w.heap.size ≤ w.heap.size + 2 := by omega
                    have hR : ∃ (f' i' : Nat) (acc' : List PS) (A'' : Option Addr) (c'' : Nat) (x0 : ByteArray) (x1 : Int) (x2 : Bool) (x3 x4 : Int), Value.slice A' (acc ++ [(ky, ia, bk)]).length c' = .slice A'' acc'.length c'' ∧ Value.int .i64 ((m + 1 : Nat) : Int) = .int .i64 i' ∧ i' ≤ n ∧ SRow (w.heap.size + 2) w3 (.slice A'' acc'.length c'') acc' ∧ w3.heap[w.heap.size]? = some (.cells #[.string ⟨l.toArray⟩] 9 (0, 0)) ∧ w3.heap[w.heap.size + 1]? = some (.cells #[.string x0, .int .i64 x1, .bool x2, .int .i64 x3, .int .i64 x4, .int .i64 0] 76 (0, 0)) ∧ Below w.heap.size w w3 ∧ Hid (parseF l f' i' acc' = parseM l) ∧ n + 1 ≤ i' + f' ∧ acc'.length ≤ 64 :=
                      ⟨f - 1, m + 1, acc ++ [(ky, ia, bk)], A', c', ⟨ky.toArray⟩, ia, bk, m, pl, rfl, rfl, by omega, hfin.out.1, (hfin.out.2.block _ (by omega)).trans ((HPW.out.2.2.2 w.heap.size (by omega) (by omega)).trans HPR.out), (hfin.out.2.block _ (by omega)).trans HPW.out.1, HPW.out.2.1.trans (hfin.out.2.mono hKB), HGO, by omega, by rw [List.length_append, List.length_cons, List.length_nil]; omega⟩
                    have HRR := Lib.hid hR
                    clear hR
                    go_wp2_with fail
                    go_roundw
                    case rel =>
                      refine ⟨_, _, _, _, _, _, _, _, _, _, _, _, _, _, _, _, _, _, _, _, _, _, _, _, _, _, _, _, _, _, _, _, _, _, _, _, _, _, _, _, _, _, _, _, _, _, _, _, _, _, _, _, _, _, _, _, _, _, _, _, _, _, _, _, _, _, _, _, _, _, _, _, _, _, _, _, _, _, _, _, _, _, HRR.out, rfl⟩
                    case measure => show n - (intOf (.int .i64 ((m + 1 : Nat) : Int))).toNat < n - (intOf (.int .i64 (i : Int))).toNat; simp only [intOf]; omega
                · have HRES := Lib.hid (parse_err hF.out (by have := HN.out; omega) (by omega) (r := errS m 4) (by rw [HR.out]; exact if_pos ⟨rfl, .inr (by simpa using hc)⟩) (by simp [errS]))
                  have m0 : ¬ ((l.getD m 0).toNat : Int) = 93 := fun e => hc (UInt8.toNat.inj (by show (l.getD m 0).toNat = 93; omega))
                  generalize (l.getD m 0).toNat = mm at *
                  clear hc hF hone hm
                  go_upto_region 20 with fail
                  refine wp_named (fun wn => PCut w wr wn l (errS m 4)) (pcut_set HPW.out.1 HPW.out.2.1 HPW.out.2.2.1 HPW.out.2.2.2 (errS m 4)) ?_
                  rintro wx hpx
                  have HPC := Lib.hid hpx
                  obtain ⟨z0, z1, z2, z3, z4, z5⟩ := at6 hpx.1
                  dsimp only [errS] at z4 z5 HRES
                  clear hpx g0 g1 g2 g3 g4 g5
                  go_wp2_with fail
                  go_quiet (fail)
                  go_wp2_with fail
                  rw [Exit.noGoto_ret]
                  go_ret3
                  rw [HRES.out]
                  exact ⟨⟨_, _, rfl, SRow.nil _ _⟩, below_drewN HPC.out.2.1 _⟩
              · have hm2 : m = n := by omega
                have HRES := Lib.hid (parse_err hF.out (by have := HN.out; omega) (by omega) (r := errS m 4) (by rw [HR.out]; exact if_pos ⟨rfl, .inl (by have := HN.out; dsimp only; omega)⟩) (by simp [errS]))
                subst hm2
                clear hF hone hm
                go_upto_region 20 with fail
                refine wp_named (fun wn => PCut w wr wn l (errS m 4)) (pcut_set HPW.out.1 HPW.out.2.1 HPW.out.2.2.1 HPW.out.2.2.2 (errS m 4)) ?_
                rintro wx hpx
                have HPC := Lib.hid hpx
                obtain ⟨z0, z1, z2, z3, z4, z5⟩ := at6 hpx.1
                dsimp only [errS] at z4 z5 HRES
                clear hpx g0 g1 g2 g3 g4 g5
                go_wp2_with fail
                go_quiet (fail)
                go_wp2_with fail
                rw [Exit.noGoto_ret]
                go_ret3
                rw [HRES.out]
                exact ⟨⟨_, _, rfl, SRow.nil _ _⟩, below_drewN HPC.out.2.1 _⟩
            · have HRES := Lib.hid (parse_err hF.out (by have := HN.out; omega) (by omega) (r := ((ky, ia, bk), en, pl, er)) (by rw [HR.out]; exact endM_err he) he)
              dsimp only at HRES
              clear hF hone
              go_wp2_with fail
              go_quiet (fail)
              go_wp2_with fail
              rw [Exit.noGoto_ret]
              go_ret3
              rw [HRES.out]
              exact ⟨⟨_, _, rfl, SRow.nil _ _⟩, below_drewN HPW.out.2.1 _⟩
        · have HRES := Lib.hid (parse_err hF.out (by have := HN.out; omega) (by omega) (r := errS i 4) (by rw [show oneM l i acc.length = errS i 4 by unfold oneM; rw [if_neg hA, if_pos hB]]; exact endM_err (by simp [errS])) (by simp [errS]))
          have m0 : ¬ ((l.getD i 0).toNat : Int) = 91 := fun e => hB (UInt8.toNat.inj (by show (l.getD i 0).toNat = 91; omega))
          generalize (l.getD i 0).toNat = m at *
          clear hA hB hF hnf
          go_upto_region 20 with fail
          refine wp_named (fun wn => PCut w wr wn l (errS i 4)) (pcut_set HKR.out HBR.out (Nat.le_refl _) (fun _ _ _ => rfl) (errS i 4)) ?_
          rintro wx hpc
          have HPC := Lib.hid hpc
          obtain ⟨z0, z1, z2, z3, z4, z5⟩ := at6 hpc.1
          dsimp only [errS] at z4 z5 HRES
          clear hpc g0 g1 g2 g3 g4 g5
          go_wp2_with fail
          go_quiet (fail)
          go_wp2_with fail
          rw [Exit.noGoto_ret]
          go_ret3
          rw [HRES.out]
          exact ⟨⟨_, _, rfl, SRow.nil _ _⟩, below_drewN HPC.out.2.1 _⟩
    · have h1' : ¬ (i : Int) < (n : Int) := by omega
      have HRES := Lib.hid (show parseM l = (acc, 0, 0) by
        rw [← hF.out]
        obtain ⟨g, rfl⟩ : ∃ g, f = g + 1 := ⟨f - 1, by omega⟩
        rw [parseF, if_neg (by have := HN.out; omega)])
      obtain ⟨z0, z1, z2, z3, z4, z5⟩ := at6 hKr
      have HBR := Lib.hid hbr
      have HSR := Lib.hid (World.ownsRow.mono hSR (by omega : w.heap.size ≤ w.heap.size + 2))
      clear hF hnf hKr hPr hbr hSR
      go_wp2_with fail
      go_ret3
      rw [HRES.out]
      exact ⟨⟨_, _, rfl, HSR.out⟩, HBR.out⟩
end Go.Proofs.YtlblddeemkefkaaGreatDoor
