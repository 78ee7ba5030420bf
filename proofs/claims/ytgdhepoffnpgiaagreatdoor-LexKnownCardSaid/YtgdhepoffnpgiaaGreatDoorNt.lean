/- accordionref10.Next at every offset; the walk of accordionref10.All. -/
import Derived.Test.YtgdhepoffnpgiaaGreatDoorNs
namespace Go.Proofs.YtgdhepoffnpgiaaGreatDoor
set_option linter.unusedVariables false
set_option linter.unusedSimpArgs false
open Go.RowKit Go.Shelf
theorem unq4 : Hid (∀ (s : List UInt8) (W : World), s.length ≤ 1073741824 → Calls Tryz.prog 33 #[strV s] W fun o w' => o = .returned (.tuple #[strV (unqM s).1, .int .i64 (unqM s).2.1, .int .i64 (unqM s).2.2.1, .int .i64 (unqM s).2.2.2]) ∧ Below W.heap.size W w') :=
  Lib.hid (fun s W h => by
    have := runq_any s W h
    rw [rUnq_eq] at this
    exact this)
/-- The reference's Next is the program's. -/
theorem rnext_any (l : List UInt8) (a : Int) (w : World) (hl : l.length ≤ 1073741824) : Calls Tryz.prog 12 #[strV l, .int .i64 a] w fun o w' => o = .returned (trV (nextM l a)) ∧ Below w.heap.size w w' := by
  by_cases h : a < 0 ∨ (l.length : Int) < a
  · exact rnext_range l a w hl h
  · obtain ⟨n, rfl⟩ : ∃ n : Nat, a = n := ⟨a.toNat, by omega⟩
    exact rnext_in unq4 l n w hl (by omega)
/-- A slice of the reference's tokens in memory of its own, from B on. -/
def RTRow (B : Nat) (w : World) (v : Value) (l : List Tok) : Prop := w.ownsRow B 39 6 v l.length (l.flatMap tokC)
theorem RTRow.nil (B : Nat) (w : World) : RTRow B w (.slice none 0 0) [] := World.ownsRow_nil w B _ 6
theorem RTRow.keep {B : Nat} {w w' : World} {v : Value} {l : List Tok} (h : RTRow B w v l) (hb : Below w.heap.size w w') : RTRow B w' v l := by
  refine ⟨h.1, ?_⟩
  rcases h.2 with hn | ⟨g, c, cur, rfl, hg, hc, rest⟩
  · exact .inl hn
  · exact .inr ⟨g, c, cur, rfl, hg, (hb.block g (row_lt hc)).trans hc, rest⟩
theorem rall_step {B : Nat} {w wn W1 w3 : World} {v v' : Value} {acc : List Tok} {t : Tok} (hT : RTRow B wn v acc) (hb : Below B w wn) (hBw : B ≤ wn.heap.size) (hW : Below wn.heap.size wn W1)
    (ho : w3.ownsRow 0 39 6 v' (acc.length + 1) (acc.flatMap tokC ++ tokC t)) (hg : W1.grownBy w3 v.ownBlock) (hwh : v'.ownBlock = v.ownBlock ∨ v'.ownBlock = some W1.heap.size) : RTRow B w3 v' (acc ++ [t]) ∧ Below B w w3 := by
  have hb3 : Below B W1 w3 := ⟨hg.os, hg.tape, hg.output, hg.size, fun k hk => hg.block k (Nat.lt_of_lt_of_le hk (Nat.le_trans hBw hW.size)) fun e => by have := hT.lt k e.symm; omega⟩
  have hbw : Below B wn w3 := (hW.mono hBw).trans hb3
  refine ⟨?_, hb.trans hbw⟩
  have e1 : (acc ++ [t]).flatMap tokC = acc.flatMap tokC ++ tokC t := by rw [List.flatMap_append]; simp
  unfold RTRow
  rw [e1, List.length_append]
  refine owns_up ho fun k hk => ?_
  rcases hwh with h | h
  · rw [h] at hk; exact (hT.lt k hk).1
  · rw [h] at hk
    cases hk
    exact Nat.le_trans hBw hW.size
theorem rtokInfo : (Tryz.prog.info? 39).map (fun i => (i.zero, i.size, i.bytes)) = some (some (.agg #[.int .i64 0, .int .i64 0, .int .i64 0, .int .i64 0, .int .u64 0, .string ⟨#[]⟩]), 6, 56) := by kernel_rfl
/-- What the reference's All hands back. -/
def RAllPost (B : Nat) (w : World) (r : List Tok × Int × Int) (e : Ending) (w' : World) : Prop := ∃ v, e = .returned (.tuple #[v, .int .i64 r.2.1, .int .i64 r.2.2]) ∧ RTRow B w' v r.1 ∧ Below B w w'
set_option maxHeartbeats 8000000 in
set_option maxRecDepth 100000 in
theorem rall_any (l : List UInt8) (w : World) (hmax : l.length ≤ 1073741824) : Calls Tryz.prog 14 #[strV l] w (RAllPost w.heap.size w (allM l)) := by
  have hs : (⟨l.toArray⟩ : ByteArray).size = l.length := by simp [ByteArray.size]
  unfold strV
  by_cases hl : 1048576 < l.length
  · have hlz : (1048576 : Int) < (l.length : Int) := by omega
    have HR := Lib.hid (show allM l = ([], 0, 5) by unfold allM; rw [if_pos hl])
    go_enter Tryz.func14, Tryz.ntmps14
    go_wp2_with fail
    go_ret3
    rw [HR.out]
    exact ⟨_, rfl, RTRow.nil _ _, Below.refl _ _⟩
  have hlz : ¬ ((1048576 : Int) < (l.length : Int)) := by omega
  have HR := Lib.hid (show allN l (l.length + 1) 0 [] = allM l by unfold allM; rw [if_neg hl])
  generalize allM l = res at *
  go_enter Tryz.func14, Tryz.ntmps14
  go_wp2_with fail
  go_loopw [5, 6] (fun o en wr => ∃ (e f : Nat) (acc : List Tok), en = .int .i64 e ∧ e ≤ l.length ∧ l.length < f + e ∧ acc.length ≤ e ∧ RTRow w.heap.size wr o acc ∧ Below w.heap.size w wr ∧ Hid (allN l f e acc = res)) (fun _ en _ => l.length + 1 - (intOf en).toNat)
  case atStart => exact ⟨0, l.length + 1, [], rfl, Nat.zero_le _, by omega, Nat.le_refl _, RTRow.nil _ _, Below.refl _ _, HR⟩
  case round =>
    clear HR hl hlz
    obtain ⟨e, f, acc, rfl, he, hf, hacc, hT, hb, hq⟩ := hrel
    obtain ⟨A0, c0, rfl⟩ := owns_ptr hT
    obtain ⟨f, rfl⟩ : ∃ g, f = g + 1 := ⟨f - 1, by omega⟩
    have hnx := rnext_any l e wr hmax
    have hst := @next_step l e he
    have hq' := hq.out
    rw [allN] at hq'
    generalize nextM l (e : Int) = r at *
    obtain ⟨⟨rk, rf, rt, rn, ru, rx⟩, re⟩ := r
    dsimp only at hst hq'
    simp only [strV, trV, tokV] at hnx
    have HN := Lib.hid hnx
    have hbs := hb.size
    have HW := Lib.hid (And.intro hT hb)
    clear hnx hq hT hb
    by_cases hre : re = 0
    · subst hre
      rw [if_neg (fun h => h rfl)] at hq'
      by_cases hrk : rk = 0
      · subst hrk
        rw [if_pos rfl] at hq'
        have HQ := Lib.hid hq'
        clear hq' hst
        go_wp2_with fail
        refine HN.out.mono ?_
        rintro o w1 ⟨rfl, hb1⟩
        have H1 := Lib.hid hb1
        clear hb1
        go_wp2_with fail
        go_ret3
        refine ⟨.slice A0 acc.length c0, by rw [← HQ.out]; rfl, ?_, ?_⟩
        · rw [← HQ.out]
          exact (HW.out.1.keep H1.out).keep ((Below.refl _ _).alloc (Nat.le_refl _) _)
        · exact (HW.out.2.trans (H1.out.mono hbs)).alloc (Nat.le_trans hbs H1.out.size) _
      · rw [if_neg hrk] at hq'
        obtain ⟨m, hm, hem, hml⟩ := hst rfl hrk
        subst hm
        have hrk' : (rk == 0) = false := by simpa using hrk
        have HQ := Lib.hid hq'
        clear hq' hst hrk
        go_wp2_with fail
        refine HN.out.mono ?_
        rintro o w1 ⟨rfl, hb1⟩
        have H1 := Lib.hid hb1
        clear hb1
        go_upto_region 10 with fail
        have hT1 : RTRow w.heap.size w1 (.slice A0 acc.length c0) acc := HW.out.1.keep H1.out
        refine wp_named (fun wn => RTRow w.heap.size wn (.slice A0 acc.length c0) acc ∧ Below w.heap.size w wn ∧ w1.heap.size < wn.heap.size ∧ wn.heap[w1.heap.size]? = some (.cells #[.int .i64 rk, .int .i64 rf, .int .i64 m, .int .i64 rn, .int .u64 ru, .string ⟨rx.toArray⟩] 39 (0, 0))) ⟨hT1.keep ((Below.refl _ _).alloc (Nat.le_refl _) _), (HW.out.2.trans (H1.out.mono hbs)).alloc (Nat.le_trans hbs H1.out.size) _, by simp, heap_alloc_new _ _⟩ ?_
        have hne1 : (Value.slice A0 acc.length c0).ownBlock ≠ some w1.heap.size := by
          intro h
          cases A0 with
          | none => cases h
          | some a =>
            have := hT1.lt a.block rfl
            have h2 : a.block = w1.heap.size := by simpa [Value.ownBlock] using h
            omega
        have hgw : w.heap.size ≤ w1.heap.size := Nat.le_trans hbs H1.out.size
        clear HN H1 HW hT1
        generalize w1.heap.size = G at *
        rintro wn ⟨hTn, hbn, hzn, hgn⟩
        obtain ⟨i0, hi, hz0, hz1, hz2⟩ := info_parts3 rtokInfo
        have own1 := Lib.hid (fun (W : World) (h : Below wn.heap.size wn W) => (World.ownsRow.mono (hTn.keep h) (Nat.zero_le _) : W.ownsRow 0 39 6 (.slice A0 acc.length c0) acc.length (acc.flatMap tokC)))
        have H63 : Hid (acc.length + 1 ≤ maxLen) := Lib.hid (by unfold maxLen; omega)
        have HBY : Hid ((acc.length + 1) * 56 ≤ 140737488355328) := Lib.hid (by omega)
        have g0 : wn.cell? ⟨G, 0, none⟩ = some (.int .i64 rk) := cell_of_row _ _ _ _ _ _ hgn
        have g1 : wn.cell? ⟨G, 1, none⟩ = some (.int .i64 rf) := cell_of_row _ _ _ _ _ _ hgn
        have g2 : wn.cell? ⟨G, 2, none⟩ = some (.int .i64 m) := cell_of_row _ _ _ _ _ _ hgn
        have g3 : wn.cell? ⟨G, 3, none⟩ = some (.int .i64 rn) := cell_of_row _ _ _ _ _ _ hgn
        have g4 : wn.cell? ⟨G, 4, none⟩ = some (.int .u64 ru) := cell_of_row _ _ _ _ _ _ hgn
        have g5 : wn.cell? ⟨G, 5, none⟩ = some (.string ⟨rx.toArray⟩) := cell_of_row _ _ _ _ _ _ hgn
        have HN := Lib.hid (And.intro hTn (And.intro hbn hgn))
        have hsw' : w.heap.size ≤ wn.heap.size := hbn.size
        clear hTn hbn hgn
        go_wp2_with (at_builtin; refine wpList_append_where (P := Tryz.prog) _ rfl (.tmp 27) (.tmp 29) 43 rfl 39 i0 (.agg #[.int .i64 0, .int .i64 0, .int .i64 0, .int .i64 0, .int .u64 0, .string ⟨#[]⟩]) 6 56 Tryz.underlying43 hi hz0 hz1 hz2 rfl (by decide) (.slice A0 acc.length c0) acc.length (acc.flatMap tokC) rfl (own1.out _ ((Below.refl _ _).alloc (by simp) _)) ⟨wn.heap.size, 0, none⟩ 1 1 [.int .i64 rk, .int .i64 rf, .int .i64 m, .int .i64 rn, .int .u64 ru, .string ⟨rx.toArray⟩] rfl rfl (row_at (heap_alloc_new _ _)) tok_one H63.out HBY.out ?_; intro v' w3 ho hg hwh; have k2 : w3.cell? ⟨G, 2, none⟩ = some (.int .i64 m) := (hg.cell (a := ⟨G, 2, none⟩) ((((Below.refl _ _).alloc (Nat.le_refl _) _).cell (p := ⟨G, 2, none⟩) hzn).trans g2) (fun e => hne1 e.symm)); have hfin := Lib.hid (rall_step (t := ⟨rk, rf, m, rn, ru, rx⟩) HN.out.1 HN.out.2.1 hsw' ((Below.refl _ _).alloc (Nat.le_refl _) _) ho hg hwh))
        go_roundw
        case rel =>
          exact ⟨m, f, _, rfl, hml, by omega, by rw [List.length_append]; simp only [List.length_cons, List.length_nil]; omega, hfin.out.1, hfin.out.2, HQ⟩
        case measure => simp only [intOf]; omega
    · rw [if_pos hre] at hq'
      have hre' : (re != 0) = true := by simpa using hre
      have HQ := Lib.hid hq'
      clear hq' hst hre
      go_wp2_with fail
      refine HN.out.mono ?_
      rintro o w1 ⟨rfl, hb1⟩
      have H1 := Lib.hid hb1
      clear hb1
      go_wp2_with fail
      go_quiet (fail)
      go_wp2_with fail
      go_ret3
      refine ⟨.slice none 0 0, by rw [← HQ.out]; rfl, ?_, ?_⟩
      · rw [← HQ.out]
        exact RTRow.nil _ _
      · exact below_drewN ((HW.out.2.trans (H1.out.mono hbs)).alloc (Nat.le_trans hbs H1.out.size) _) _
end Go.Proofs.YtgdhepoffnpgiaaGreatDoor
