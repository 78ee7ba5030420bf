/- The walk of accordionlaw10.LexBlanks. -/
import Derived.Test.YtgdhepoffnpgiaaDoorPg
namespace Go.Proofs.YtgdhepoffnpgiaaDoor
set_option linter.unusedVariables false
set_option linter.unusedSimpArgs false
open Go.RowKit Go.Shelf
def i64ok (n : Int) : Prop := -9223372036854775808 ≤ n ∧ n ≤ 9223372036854775807
/-- A slice of pairs of ints that came in. -/
def PairRow (w : World) (a : Option Addr) (len : Nat) : Prop := ∀ i, i < len → ∃ x n0 n1, a = some x ∧ i64ok n0 ∧ i64ok n1 ∧ x.block < w.heap.size ∧ w.cell? (x.add (i * 2)) = some (.int .i64 n0) ∧ w.cell? ((x.add (i * 2)).add 1) = some (.int .i64 n1)
def IntRow (w : World) (a : Option Addr) (len : Nat) : Prop := ∀ i, i < len → ∃ x n, a = some x ∧ i64ok n ∧ x.block < w.heap.size ∧ w.cell? (x.add i) = some (.int .i64 n)
/-- What All's list and the wanted list have in common. -/
theorem all_words {ws : List BW} (h : ∀ z ∈ ws, BWok z) (hn : ws.length ≤ 30) (w : World) (hG : Glb w) (hB : Gb w.heap.size) : Calls Tryd.prog 14 #[strV (cat ws ++ [10])] w (AllPost w.heap.size w (wantL 0 ws, 0, 0)) := by
  have hl := (cat_len h).2
  have := all_any (cat ws ++ [10]) w hG hB (by rw [List.length_append, List.length_singleton]; omega)
  rw [blanks_law h hn] at this
  exact this
def bkL : List UInt8 := [32, 9, 10, 13]
theorem bk_ok {n : Nat} (h1 : 1 ≤ n) (h4 : n ≤ 4) : (∀ c ∈ bkL.take n, blankB c = true) ∧ (bkL.take n).length = n := by
  refine ⟨fun c hc => ?_, by rw [List.length_take]; simp [bkL]; omega⟩
  have hm := List.mem_of_mem_take hc
  have hall : ∀ c ∈ bkL, blankB c = true := by decide
  exact hall c hm
theorem add_block (x : Addr) (i : Nat) : (x.add i).block = x.block := by unfold Addr.add; split <;> rfl
set_option maxHeartbeats 16000000 in
set_option maxRecDepth 100000 in
theorem blanks_any (a0 : Option Addr) (len0 cap0 : Nat) (a1 : Option Addr) (len1 cap1 : Nat) (w : World) (hP : PairRow w a0 len0) (hR : IntRow w a1 len1) (hl0 : len0 ≤ cap0 ∧ cap0 ≤ maxLen) (hl1 : len1 ≤ cap1 ∧ cap1 ≤ maxLen) (hG : Glb w) (hB : Gb w.heap.size)
    (htab : Lib.TabIs Tryd.prog w "internal/strconv.uint64pow10" .u64 Lib.pow10Tab) : Calls Tryd.prog 8 #[.slice a0 len0 cap0, .slice a1 len1 cap1] w fun e w' => e = .returned (.bool true) ∧ Below w.heap.size w w' := by
  have H0 := Lib.hid (WG.refl hG hB)
  have HT := Lib.hid (Lib.tabBelow_of_tabIs htab)
  have HP := Lib.hid hP
  have HR := Lib.hid hR
  have hm0 := hl0.2
  have hm1 := hl1.2
  unfold maxLen at hm0 hm1
  have hll0 := hl0.1
  have hll1 := hl1.1
  clear hG hB htab hP hR hl0 hl1
  go_enter Tryd.func8, Tryd.ntmps8
  go_wp2_with fail
  go_loopw [5, 6, 7] (fun sv wv iv wr => ∃ ws : List BW, sv = .string ⟨(cat ws).toArray⟩ ∧ iv = .int .i64 ws.length ∧ ws.length ≤ 30 ∧ ws.length ≤ len0 ∧ Hid (∀ z ∈ ws, BWok z) ∧ TRow w.heap.size wr wv (wantL 0 ws) ∧ WG w wr) (fun _ _ iv _ => 30 - (intOf iv).toNat)
  case atStart => exact ⟨[], rfl, rfl, by simp, by simp, Lib.hid (by simp), TRow.nil _ _, H0.out⟩
  case round =>
    clear H0
    obtain ⟨ws, rfl, rfl, h30, hws0, hok, hT, hW⟩ := hrel
    have hwl := want_len ws 0
    have hsn := fun z : BW => want_snoc z ws 0
    have HSN := Lib.hid hsn
    clear hsn
    generalize hLL : wantL 0 ws = acc at *
    have HLL := Lib.hid hLL
    clear hLL
    obtain ⟨A2, c2, rfl⟩ := owns_ptr hT
    have hcat := (cat_len hok.out).2
    have hacc : acc.length ≤ 30 := by omega
    have HWL := Lib.hid hwl
    clear hwl
    by_cases hgo : ws.length < len0 ∧ ws.length < 30
    · obtain ⟨g0, g1⟩ := hgo
      have d0 : decide ((ws.length : Int) < (len0 : Int)) = true := decide_eq_true (by omega)
      have d1 : decide ((ws.length : Int) < 30) = true := decide_eq_true (by omega)
      obtain ⟨x, n0, n1, rfl, hn0, hn1, hxb, kk0, kk1⟩ := HP.out ws.length g0
      have kk0' : wr.cell? (x.add (ws.length * 2)) = some (.int .i64 n0) := (hW.b.cell (p := x.add (ws.length * 2)) (by rw [add_block]; exact hxb)).trans kk0
      have kk1' : wr.cell? ⟨(x.add (ws.length * 2)).block, (x.add (ws.length * 2)).off + 1, none⟩ = some (.int .i64 n1) := (hW.b.cell (p := (x.add (ws.length * 2)).add 1) (by rw [add_block, add_block]; exact hxb)).trans kk1
      have qi : IntKind.i64.wrap ((ws.length : Int) + 1) = (ws.length : Int) + 1 := IntWalk.i64_in _ (by omega)
      have HWd := Lib.hid (lword_any n0 n1 hn0.1 hn0.2 hn1.1 hn1.2 wr wr (WG.refl hW.g hW.gw) (Lib.tabBelow_of_tabIs (HT.out wr hW.b)))
      have HA := Lib.hid (And.intro hT hW)
      have HG := Lib.hid (And.intro g0 g1)
      have HCAT := Lib.hid hcat
      clear hn0 hn1 kk0 kk1
      by_cases hb0 : len1 = 0
      case' pos =>
        obtain ⟨m, hm⟩ : ∃ m : Nat, m = 1 := ⟨1, rfl⟩
        have z1 : ¬ (0 : Int) < (len1 : Int) := by omega
        have hm1' : 1 ≤ m := by omega
        have hm4' : m ≤ 4 := by omega
        have hmz : (1 : Int) = (m : Int) := by omega
        clear hT hW hcat
        go_upto_region 9 with fail
        rw [hmz]
        clear z1 hmz hm hb0
      case' neg =>
        have z1 : (0 : Int) < (len1 : Int) := by omega
        have z2 : ((len1 : Int) == 0) = false := by simp only [beq_eq_false_iff_ne, ne_eq]; omega
        obtain ⟨r, hr⟩ : ∃ r : Nat, r = ws.length % len1 := ⟨_, rfl⟩
        have hrl : r < len1 := by rw [hr]; exact Nat.mod_lt _ (by omega)
        have q1 : (ws.length : Int).tmod (len1 : Int) = (r : Int) := by rw [Int.tmod_eq_emod_of_nonneg (by omega), hr]; rfl
        have q1' : (ws.length : Int) % (len1 : Int) = (r : Int) := by rw [hr]; rfl
        have q2 : IntKind.i64.wrap (r : Int) = (r : Int) := IntWalk.i64_in _ (by omega)
        obtain ⟨x1, v, rfl, hv, hx1b, kv⟩ := HR.out r hrl
        have kv' : wr.cell? (x1.add r) = some (.int .i64 v) := (hW.b.cell (p := x1.add r) (by rw [add_block]; exact hx1b)).trans kv
        have hm := Int.emod_nonneg v (show (4 : Int) ≠ 0 by omega)
        have hm2 := Int.emod_lt_of_pos v (show (0 : Int) < 4 by omega)
        have HBr := Lib.hid (fun W => bring_any v 4 (by omega) (by omega) hv.1 hv.2 W)
        obtain ⟨m, hmz⟩ : ∃ m : Nat, (m : Int) = 1 + v % 4 := ⟨(1 + v % 4).toNat, by omega⟩
        generalize v % 4 = vm at *
        have q3 : IntKind.i64.wrap (1 + vm) = (m : Int) := by rw [IntWalk.i64_in _ (by omega)]; omega
        have hm1' : 1 ≤ m := by omega
        have hm4' : m ≤ 4 := by omega
        clear kv hv hr hm hm2 hmz hT hW hcat
        go_wp2_with fail
        refine (HBr.out _).mono ?_
        rintro e w1 ⟨rfl, rfl⟩
        clear HBr
        go_upto_region 9 with fail
        clear q1 q1' q2 q3 kv' z2 z1 hb0
      all_goals
        obtain ⟨hbk, hbl⟩ := bk_ok hm1' hm4'
        have hsl : ∀ W : World, (Instr.slice 9 (.string ⟨#[32, 9, 10, 13]⟩) none (some (.int .i64 m)) none).run Tryd.prog W = .ok (.string ⟨(bkL.take m).toArray⟩) W := fun W => sub_to bkL m hm4' W
        generalize bkL.take m = b at *
        have hadd := str_app (cat ws) b
        have hsum : (cat ws).length + b.length ≤ 9223372036854775807 := by have := HCAT.out; omega
        obtain ⟨s1, hs1⟩ : ∃ z, z = cat ws ++ b := ⟨_, rfl⟩
        rw [← hs1] at hadd
        have hs1l : s1.length = (cat ws).length + b.length := by rw [hs1, List.length_append]
        have hsz1 : (⟨s1.toArray⟩ : ByteArray).size = s1.length := by simp [ByteArray.size]
        have HBK := Lib.hid (And.intro hbk (And.intro hbl hs1))
        have HL1 := Lib.hid hs1l
        have hs1b : s1.length ≤ 2000 := by have := HCAT.out; omega
        clear hbk hbl hs1 hs1l
        go_wp2_with fail
        refine HWd.out.mono ?_
        rintro e w2 ⟨W, hWo, rfl, hg2⟩
        have HWO := Lib.hid hWo
        have HA2 := Lib.hid (show TRow w.heap.size w2 (.slice A2 acc.length c2) acc ∧ WG w w2 from ⟨HA.out.1.keep hg2.b, HA.out.2.next hg2.b⟩)
        have hwx := hWo.l.2
        clear hg2 hWo HWd HA kk0' kk1'
        obtain ⟨⟨tk, tf, tt, tn, tu, tx⟩, wx⟩ := W
        dsimp only at hwx ⊢
        have hszx : (⟨wx.toArray⟩ : ByteArray).size = wx.length := by simp [ByteArray.size]
        go_upto_region 11 with fail
        refine wp_named (fun wn => Below w2.heap.size w2 wn ∧ TCell wn w2.heap.size 25 tk 0 0 tn tu tx) ⟨(Below.refl _ _).alloc (Nat.le_refl _) _, TCell.new _ _ _ _ _ _ _ _⟩ ?_
        rintro wn ⟨hbn, htn⟩
        obtain ⟨v0, v1, v2, v3, v4, v5⟩ := htn.cells
        have f1 := Lib.frozen_of_heap htn.2 1
        have f2 := Lib.frozen_of_heap htn.2 2
        obtain ⟨e1, he1⟩ : ∃ z : Nat, z = s1.length + wx.length := ⟨_, rfl⟩
        have q5 : IntKind.i64.wrap ((s1.length : Int) + (wx.length : Int)) = (e1 : Int) := by rw [IntWalk.i64_in _ (by omega)]; omega
        have HN := Lib.hid (And.intro hbn htn)
        have HE1 := Lib.hid he1
        clear hbn htn he1
        go_upto_region 12 with fail
        refine wp_named (fun wn => Below w2.heap.size w2 wn ∧ TCell wn w2.heap.size 25 tk s1.length e1 tn tu tx) ⟨(HN.out.1.setCell (p := ⟨w2.heap.size, 1, none⟩) (Nat.le_refl _) _).setCell (p := ⟨w2.heap.size, 2, none⟩) (Nat.le_refl _) _, by simp [World.setCell]; exact HN.out.2.1, row_set 2 _ (row_set 1 _ HN.out.2.2)⟩ ?_
        clear v0 v1 v2 v3 v4 v5 f1 f2 HN q5
        rintro wm ⟨hbm, htm⟩
        have hT := HA2.out.1.keep hbm
        have hWm := HA2.out.2.next hbm
        have hne1 : (Value.slice A2 acc.length c2).ownBlock ≠ some w2.heap.size := by
          intro h
          cases A2 with
          | none => cases h
          | some a =>
            have := HA2.out.1.lt a.block rfl
            have h2 : a.block = w2.heap.size := by simpa [Value.ownBlock] using h
            omega
        have hzn := htm.1
        obtain ⟨v0, v1, v2, v3, v4, v5⟩ := htm.cells
        obtain ⟨i0, hi, hz0, hz1, hz2⟩ := info_parts3 tokInfo
        have own1 := Lib.hid (fun (W : World) (h : Below wm.heap.size wm W) => (World.ownsRow.mono (hT.keep h) (Nat.zero_le _) : W.ownsRow 0 25 6 (.slice A2 acc.length c2) acc.length (acc.flatMap tokC)))
        have H63 : Hid (acc.length + 1 ≤ maxLen) := Lib.hid (by unfold maxLen; omega)
        have HBY : Hid ((acc.length + 1) * 56 ≤ 140737488355328) := Lib.hid (by omega)
        have hadd2 := str_app s1 wx
        have hsum2 : s1.length + wx.length ≤ 9223372036854775807 := by omega
        have HM := Lib.hid (And.intro hT (And.intro hWm HA2.out.2.b.size))
        have hwsz : w.heap.size ≤ wm.heap.size := hWm.b.size
        clear hT hWm hbm htm HA2
        go_wp2_with (at_builtin; refine wpList_append_where (P := Tryd.prog) _ rfl (.tmp 61) (.tmp 63) 35 rfl 25 i0 (.agg #[.int .i64 0, .int .i64 0, .int .i64 0, .int .i64 0, .int .u64 0, .string ⟨#[]⟩]) 6 56 Tryd.underlying35 hi hz0 hz1 hz2 rfl (by decide) (.slice A2 acc.length c2) acc.length (acc.flatMap tokC) rfl (own1.out _ ((Below.refl _ _).alloc (by simp) _)) ⟨wm.heap.size, 0, none⟩ 1 1 [.int .i64 tk, .int .i64 s1.length, .int .i64 e1, .int .i64 tn, .int .u64 tu, .string ⟨tx.toArray⟩] rfl rfl (row_at (heap_alloc_new _ _)) tok_one H63.out HBY.out ?_; intro v' w3 ho hg hwh; have hfin := Lib.hid (all_step (t := ⟨tk, s1.length, e1, tn, tu, tx⟩) HM.out.1 HM.out.2.1.b HM.out.2.1.g HM.out.2.1.gb hwsz ((Below.refl _ _).alloc (Nat.le_refl _) _) ho hg hwh))
        go_roundw
        case rel =>
          refine ⟨ws ++ [⟨b, ⟨⟨tk, tf, tt, tn, tu, tx⟩, wx⟩⟩], ?_, ?_, ?_, ?_, ?_, ?_, ?_⟩
          · rw [cat_snoc, HBK.out.2.2, List.append_assoc]
          · rw [List.length_append]; rfl
          · rw [List.length_append]; have := HG.out.2; simp only [List.length_cons, List.length_nil]; omega
          · rw [List.length_append]; have := HG.out.1; simp only [List.length_cons, List.length_nil]; omega
          · refine Lib.hid (fun z hz => ?_)
            rcases List.mem_append.1 hz with hz | hz
            · exact hok.out z hz
            · rw [List.mem_singleton] at hz
              rw [hz]
              exact ⟨HBK.out.1, by show 1 ≤ b.length; rw [HBK.out.2.1]; exact hm1', by show b.length ≤ 4; rw [HBK.out.2.1]; exact hm4', HWO.out⟩
          · have e : wantL 0 (ws ++ [⟨b, ⟨⟨tk, tf, tt, tn, tu, tx⟩, wx⟩⟩]) = acc ++ [⟨tk, s1.length, e1, tn, tu, tx⟩] := by
              rw [HSN.out]
              congr 1
              unfold Word.at_
              have h1 := HL1.out
              have h2 := HE1.out
              simp only [List.cons.injEq, Tok.mk.injEq, and_true, true_and]
              constructor <;> omega
            rw [e]
            exact hfin.out.1
          · exact ⟨hfin.out.2.1, hfin.out.2.2, HM.out.2.1.gb⟩
        case measure => have := HG.out.2; simp only [intOf]; omega
    · have hno : ¬ ws.length < len0 ∨ (ws.length < len0 ∧ ¬ ws.length < 30) := by omega
      have hAll := all_words hok.out h30 wr hW.g hW.gw
      rw [HLL.out] at hAll
      have hadd := str_app (cat ws) [10]
      have hsum : (cat ws).length + 1 ≤ 9223372036854775807 := by omega
      have hszc : (⟨(cat ws).toArray⟩ : ByteArray).size = (cat ws).length := by simp [ByteArray.size]
      unfold strV at hAll
      generalize cat ws ++ [10] = sf at *
      have HAL := Lib.hid hAll
      have HA := Lib.hid (And.intro hT hW)
      clear hAll hT hW hcat
      have hll : ((acc.length : Int) != (acc.length : Int)) = false := by simp
      rcases hno with hno | ⟨hyes, hno⟩
      case' inl => have d0 : decide ((ws.length : Int) < (len0 : Int)) = false := decide_eq_false (by omega)
      case' inr =>
        have d0 : decide ((ws.length : Int) < (len0 : Int)) = true := decide_eq_true (by omega)
        have d1 : decide ((ws.length : Int) < 30) = false := decide_eq_false (by omega)
      all_goals
        go_wp2_with fail
        refine HAL.out.mono ?_
        rintro e w2 ⟨v, rfl, hT2, hb2⟩
        obtain ⟨A3, c3, rfl⟩ := owns_ptr hT2
        have HA2 := Lib.hid (And.intro (HA.out.1.keep hb2) (And.intro (HA.out.2.next hb2) hT2))
        clear hT2 hb2 HA HAL
        dsimp only
        go_wp2_with fail
        go_loopw [14] (fun iv wy => ∃ j : Nat, iv = .int .i64 j ∧ j ≤ acc.length ∧ WG w wy ∧ TRow w.heap.size wy (.slice A2 acc.length c2) acc ∧ TRow wr.heap.size wy (.slice A3 acc.length c3) acc) (fun iv _ => acc.length - (intOf iv).toNat)
        case atStart => exact ⟨0, rfl, Nat.zero_le _, HA2.out.2.1, HA2.out.1, HA2.out.2.2⟩
        case round =>
          clear HA2
          obtain ⟨j, rfl, hj, hw, hT, hT2⟩ := hrel
          by_cases hlt : j < acc.length
          · have hltz : (j : Int) < (acc.length : Int) := by omega
            have hget : acc[j]? = some acc[j] := List.getElem?_eq_getElem hlt
            generalize acc[j] = tt at *
            obtain ⟨r0, r1, r2, r3, r4, r5⟩ := tt
            obtain ⟨g, rfl, hc1, hc2, hgz, k0, k1, k2, k3, k4, k5⟩ := row_tok hT hget
            obtain ⟨g2, rfl, hd1, hd2, hgz2, m0, m1, m2, m3, m4, m5⟩ := row_tok hT2 hget
            have q1 : IntKind.i64.wrap ((j : Int) + 1) = j + 1 := IntWalk.i64_in _ (by omega)
            have HW := Lib.hid (And.intro hw (And.intro hT hT2))
            clear hget hw hT hT2
            go_wp2_with fail
            go_quiet (fail)
            go_wp2_with fail
            go_roundw
            case rel => exact ⟨j + 1, by go_num, by omega, HW.out.1.next (below_drewN (Below.refl _ _) _), HW.out.2.1.keep (below_drewN (Below.refl _ _) _), HW.out.2.2.keep (below_drewN (Below.refl _ _) _)⟩
            case measure => simp only [intOf]; omega
          · have hltz : ¬ (j : Int) < (acc.length : Int) := by omega
            have HW := Lib.hid hw
            clear hw hT hT2
            go_wp2_with fail
            refine (works_any _ _ HW.out).mono ?_
            rintro e w4 ⟨rfl, hw4⟩
            have HW4 := Lib.hid hw4
            clear hw4
            go_wp2_with fail
            go_ret
            exact ⟨rfl, HW4.out.b⟩
end Go.Proofs.YtgdhepoffnpgiaaDoor
