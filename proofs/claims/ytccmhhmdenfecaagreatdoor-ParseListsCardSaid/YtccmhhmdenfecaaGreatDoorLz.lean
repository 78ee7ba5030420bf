/- The walk of lex.All. -/
import Derived.Test.YtccmhhmdenfecaaGreatDoorLy
import Derived.Test.YtccmhhmdenfecaaGreatDoorLq
import Derived.Deep.Onto
import Derived.WalkMore
import Derived.OwnWalk
namespace Go.Proofs.YtccmhhmdenfecaaGreatDoor
set_option linter.unusedVariables false
set_option linter.unusedSimpArgs false
open Go.RowKit Go.Shelf
theorem cell_of_row (w : World) (g i : Nat) (cs : Array Value) (e : TypeId) (fr : Nat × Nat) (h : w.heap[g]? = some (.cells cs e fr)) : w.cell? ⟨g, i, none⟩ = cs[i]? := Lib.cell_of_heap h i
theorem owns_up {w : World} {B : Nat} {e : TypeId} {sz n : Nat} {v : Value} {xs : List Value} (h : w.ownsRow 0 e sz v n xs) (hb : ∀ k, v.ownBlock = some k → B ≤ k) : w.ownsRow B e sz v n xs := by
  refine ⟨h.1, ?_⟩
  rcases h.2 with hn | ⟨g, c, cur, rfl, hg, rest⟩
  · exact .inl hn
  · exact .inr ⟨g, c, cur, rfl, hb g rfl, rest⟩
/-- The cells of tokens. -/
def tokC (t : Tok) : List Value := [.int .i64 t.kind, .int .i64 t.from_, .int .i64 t.to_, .int .i64 t.n, .int .u64 t.u, strV t.text]
theorem tok_one {kd a b n u : Int} {s : ByteArray} : ∀ v ∈ [Value.int .i64 kd, .int .i64 a, .int .i64 b, .int .i64 n, .int .u64 u, .string s], v.oneCell' = true := by
  intro v hv
  simp only [List.mem_cons, List.not_mem_nil, or_false] at hv
  rcases hv with rfl | rfl | rfl | rfl | rfl | rfl <;> rfl
/-- A slice of tokens in memory of its own, from B on. -/
def TRow (B : Nat) (w : World) (v : Value) (l : List Tok) : Prop := w.ownsRow B 43 6 v l.length (l.flatMap tokC)
theorem TRow.nil (B : Nat) (w : World) : TRow B w (.slice none 0 0) [] := World.ownsRow_nil w B _ 6
theorem TRow.keep {B : Nat} {w w' : World} {v : Value} {l : List Tok} (h : TRow B w v l) (hb : Below w.heap.size w w') : TRow B w' v l := by
  refine ⟨h.1, ?_⟩
  rcases h.2 with hn | ⟨g, c, cur, rfl, hg, hc, rest⟩
  · exact .inl hn
  · exact .inr ⟨g, c, cur, rfl, hg, (hb.block g (row_lt hc)).trans hc, rest⟩
theorem all_step {B : Nat} {w wn W1 w3 : World} {v v' : Value} {acc : List Tok} {t : Tok} (hT : TRow B wn v acc) (hb : Below B w wn) (hG : Glb wn) (hB : Gb B) (hBw : B ≤ wn.heap.size) (hW : Below wn.heap.size wn W1)
    (ho : w3.ownsRow 0 43 6 v' (acc.length + 1) (acc.flatMap tokC ++ tokC t)) (hg : W1.grownBy w3 v.ownBlock) (hwh : v'.ownBlock = v.ownBlock ∨ v'.ownBlock = some W1.heap.size) : TRow B w3 v' (acc ++ [t]) ∧ Below B w w3 ∧ Glb w3 := by
  have hb3 : Below B W1 w3 := ⟨hg.os, hg.tape, hg.output, hg.size, fun k hk => hg.block k (Nat.lt_of_lt_of_le hk (Nat.le_trans hBw hW.size)) fun e => by have := hT.lt k e.symm; omega⟩
  have hbw : Below B wn w3 := (hW.mono hBw).trans hb3
  refine ⟨?_, hb.trans hbw, hG.below hbw hB⟩
  have e1 : (acc ++ [t]).flatMap tokC = acc.flatMap tokC ++ tokC t := by rw [List.flatMap_append]; simp
  unfold TRow
  rw [e1, List.length_append]
  refine owns_up ho fun k hk => ?_
  rcases hwh with h | h
  · rw [h] at hk; exact (hT.lt k hk).1
  · rw [h] at hk
    cases hk
    exact Nat.le_trans hBw hW.size
theorem tokInfo : (Tryz.prog.info? 43).map (fun i => (i.zero, i.size, i.bytes)) = some (some (.agg #[.int .i64 0, .int .i64 0, .int .i64 0, .int .i64 0, .int .u64 0, .string ⟨#[]⟩]), 6, 56) := by kernel_rfl
theorem info_parts3 {P : Program} {t : TypeId} {z : Value} {a b : Nat} (h : (P.info? t).map (fun i => (i.zero, i.size, i.bytes)) = some (some z, a, b)) : ∃ i, P.info? t = some i ∧ i.zero = some z ∧ i.size = a ∧ i.bytes = b := by
  cases hi : P.info? t with
  | none => rw [hi] at h; cases h
  | some i =>
    rw [hi] at h
    simp only [Option.map_some, Option.some.injEq, Prod.mk.injEq] at h
    exact ⟨i, rfl, h.1, h.2.1, h.2.2⟩
/-- What All hands back. -/
def AllPost (B : Nat) (w : World) (r : List Tok × Int × Int) (e : Ending) (w' : World) : Prop := ∃ v, e = .returned (.tuple #[v, .int .i64 r.2.1, .int .i64 r.2.2]) ∧ TRow B w' v r.1 ∧ Below B w w'
theorem next_step {s : List UInt8} {e : Nat} (he : e ≤ s.length) (h0 : (nextM s e).2 = 0) (hk : (nextM s e).1.kind ≠ 0) : ∃ m : Nat, (nextM s e).1.to_ = m ∧ e < m ∧ m ≤ s.length := by
  have hn := next_at he
  have hbl := blanks_le (s.drop e)
  rw [List.length_drop] at hbl
  have h0' := h0
  have hk' := hk
  rw [hn] at h0' hk'
  obtain ⟨k, kd, n, u, x, k1, k2, d1, d12, i1, i2⟩ := tok_cover h0' hk'
  rw [← hn] at i1
  rw [List.length_drop, List.length_drop] at k2
  refine ⟨e + blanksN (s.drop e) + k, ?_, by omega, by omega⟩
  rw [i1]
  push_cast; rfl
set_option maxHeartbeats 8000000 in
set_option maxRecDepth 100000 in
theorem all_any (l : List UInt8) (w : World) (hG : Glb w) (hB : Gb w.heap.size) (hmax : l.length ≤ 1073741824) : Calls Tryz.prog 20 #[strV l] w (AllPost w.heap.size w (allM l)) := by
  have hs : (⟨l.toArray⟩ : ByteArray).size = l.length := by simp [ByteArray.size]
  unfold strV
  by_cases hl : 1048576 < l.length
  · have hlz : (1048576 : Int) < (l.length : Int) := by omega
    have HR := Lib.hid (show allM l = ([], 0, 5) by unfold allM; rw [if_pos hl])
    clear hl
    go_enter Tryz.func20, Tryz.ntmps20
    go_wp2_with fail
    go_step3
    go_wp2_with fail
    rw [Exit.noGoto_ret]
    go_ret3
    rw [HR.out]
    exact ⟨_, rfl, TRow.nil _ _, Below.refl _ _⟩
  have hlz : decide ((1048576 : Int) < (l.length : Int)) = false := by simp; omega
  have HR := Lib.hid (show allN l (l.length + 1) 0 [] = allM l by unfold allM; rw [if_neg hl])
  have HI := Lib.hid (And.intro hG hB)
  clear hG hB
  generalize allM l = res at *
  go_enter Tryz.func20, Tryz.ntmps20
  go_wp2_with fail
  go_step3
  go_wp2_with fail
  go_step3
  go_wp2_with fail
  go_loopw [5, 6] (fun o en wr => ∃ (e f : Nat) (acc : List Tok), en = .int .i64 e ∧ e ≤ l.length ∧ l.length < f + e ∧ acc.length ≤ e ∧ TRow w.heap.size wr o acc ∧ Below w.heap.size w wr ∧ Glb wr ∧ Hid (allN l f e acc = res)) (fun _ en _ => l.length + 1 - (intOf en).toNat)
  case atStart => exact ⟨0, l.length + 1, [], rfl, Nat.zero_le _, by omega, Nat.le_refl _, TRow.nil _ _, Below.refl _ _, HI.out.1, HR⟩
  case round =>
    obtain ⟨e, f, acc, rfl, he, hf, hacc, hT, hb, hG, hq⟩ := hrel
    obtain ⟨A0, c0, rfl⟩ := owns_ptr hT
    obtain ⟨f, rfl⟩ : ∃ g, f = g + 1 := ⟨f - 1, by omega⟩
    have hBw : Gb wr.heap.size := HI.out.2.mono hb.size
    have hnx := next_any l e wr hmax hG hBw
    have hst := @next_step l e he
    have hq' := hq.out
    rw [allN] at hq'
    generalize nextM l (e : Int) = r at *
    obtain ⟨⟨rk, rf, rt, rn, ru, rx⟩, re⟩ := r
    dsimp only at hst hq'
    simp only [strV, trV, tokV] at hnx
    have HN := Lib.hid hnx
    have hbs := hb.size
    have HW := Lib.hid (And.intro hT (And.intro hb (And.intro hG hBw)))
    clear hnx hq hT hb hG hBw
    by_cases hre : re = 0
    · subst hre
      rw [if_neg (fun h => h rfl)] at hq'
      by_cases hrk : rk = 0
      · subst hrk
        rw [if_pos rfl] at hq'
        have HQ := Lib.hid hq'
        clear hq' hst
        go_wp2_with fail
        refine HN.out.mono ?_
        rintro o w1 ⟨rfl, hb1⟩
        have H1 := Lib.hid hb1
        clear hb1
        go_wp2_with fail
        rw [Exit.noGoto_ret]
        go_ret3
        refine ⟨.slice A0 acc.length c0, by rw [← HQ.out]; rfl, ?_, ?_⟩
        · rw [← HQ.out]
          exact (HW.out.1.keep H1.out).keep ((Below.refl _ _).alloc (Nat.le_refl _) _)
        · exact (HW.out.2.1.trans (H1.out.mono hbs)).alloc (Nat.le_trans hbs H1.out.size) _
      · rw [if_neg hrk] at hq'
        obtain ⟨m, hm, hem, hml⟩ := hst rfl hrk
        subst hm
        have hrk' : (rk == 0) = false := by simpa using hrk
        have HQ := Lib.hid hq'
        clear hq' hst hrk
        go_wp2_with fail
        refine HN.out.mono ?_
        rintro o w1 ⟨rfl, hb1⟩
        have H1 := Lib.hid hb1
        clear hb1
        go_upto_region 9 with fail
        have hT1 : TRow w.heap.size w1 (.slice A0 acc.length c0) acc := HW.out.1.keep H1.out
        refine wp_named (fun wn => TRow w.heap.size wn (.slice A0 acc.length c0) acc ∧ Below w.heap.size w wn ∧ w1.heap.size < wn.heap.size ∧ wn.heap[w1.heap.size]? = some (.cells #[.int .i64 rk, .int .i64 rf, .int .i64 m, .int .i64 rn, .int .u64 ru, .string ⟨rx.toArray⟩] 43 (0, 0)) ∧ Glb wn) ⟨hT1.keep ((Below.refl _ _).alloc (Nat.le_refl _) _), (HW.out.2.1.trans (H1.out.mono hbs)).alloc (Nat.le_trans hbs H1.out.size) _, by simp, heap_alloc_new _ _, (HW.out.2.2.1.below H1.out HW.out.2.2.2).below ((Below.refl _ _).alloc (Nat.le_refl _) _) (HW.out.2.2.2.mono H1.out.size)⟩ ?_
        have hne1 : (Value.slice A0 acc.length c0).ownBlock ≠ some w1.heap.size := by
          intro h
          cases A0 with
          | none => cases h
          | some a =>
            have := hT1.lt a.block rfl
            have h2 : a.block = w1.heap.size := by simpa [Value.ownBlock] using h
            omega
        have hgw : w.heap.size ≤ w1.heap.size := Nat.le_trans hbs H1.out.size
        clear HN H1 HW hT1
        generalize w1.heap.size = G at *
        rintro wn ⟨hTn, hbn, hzn, hgn, hGn⟩
        obtain ⟨i0, hi, hz0, hz1, hz2⟩ := info_parts3 tokInfo
        have own1 := Lib.hid (fun (W : World) (h : Below wn.heap.size wn W) => (World.ownsRow.mono (hTn.keep h) (Nat.zero_le _) : W.ownsRow 0 43 6 (.slice A0 acc.length c0) acc.length (acc.flatMap tokC)))
        have H63 : Hid (acc.length + 1 ≤ maxLen) := Lib.hid (by unfold maxLen; omega)
        have HBY : Hid ((acc.length + 1) * 56 ≤ 140737488355328) := Lib.hid (by omega)
        have g0 : wn.cell? ⟨G, 0, none⟩ = some (.int .i64 rk) := cell_of_row _ _ _ _ _ _ hgn
        have g1 : wn.cell? ⟨G, 1, none⟩ = some (.int .i64 rf) := cell_of_row _ _ _ _ _ _ hgn
        have g2 : wn.cell? ⟨G, 2, none⟩ = some (.int .i64 m) := cell_of_row _ _ _ _ _ _ hgn
        have g3 : wn.cell? ⟨G, 3, none⟩ = some (.int .i64 rn) := cell_of_row _ _ _ _ _ _ hgn
        have g4 : wn.cell? ⟨G, 4, none⟩ = some (.int .u64 ru) := cell_of_row _ _ _ _ _ _ hgn
        have g5 : wn.cell? ⟨G, 5, none⟩ = some (.string ⟨rx.toArray⟩) := cell_of_row _ _ _ _ _ _ hgn
        have HN := Lib.hid (And.intro hTn (And.intro hbn (And.intro hgn hGn)))
        have hsw' : w.heap.size ≤ wn.heap.size := hbn.size
        clear hTn hbn hgn hGn
        go_region_law ((first | (refine step_append_where rfl (.tmp 28) (.tmp 30) 39 rfl 43 i0 (.agg #[.int .i64 0, .int .i64 0, .int .i64 0, .int .i64 0, .int .u64 0, .string ⟨#[]⟩]) 6 56 Tryz.underlying39 hi hz0 hz1 hz2 rfl (by decide) (.slice A0 acc.length c0) acc.length (acc.flatMap tokC) rfl (own1.out _ (((Below.refl _ _).drew).alloc (by simp) _)) ⟨wn.heap.size, 0, none⟩ 1 1 [.int .i64 rk, .int .i64 rf, .int .i64 m, .int .i64 rn, .int .u64 ru, .string ⟨rx.toArray⟩] rfl rfl (row_at (heap_alloc_new _ _)) tok_one H63.out HBY.out ?_; intro v' w3 ho hg hwh; have k2 : w3.cell? ⟨G, 2, none⟩ = some (.int .i64 m) := (hg.cell (a := ⟨G, 2, none⟩) ((((Below.refl _ _).drew.alloc (Nat.le_refl _) _).cell (p := ⟨G, 2, none⟩) hzn).trans g2) (fun e => hne1 e.symm)); have hfin := Lib.hid (all_step (t := ⟨rk, rf, m, rn, ru, rx⟩) HN.out.1 HN.out.2.1 HN.out.2.2.2 HI.out.2 hsw' (((Below.refl _ _).drew).alloc (Nat.le_refl _) _) ho hg hwh))))
        all_goals
          go_wp2_with fail
          go_roundw
          case rel =>
            have hR : ∃ (e f' : Nat) (acc' : List Tok), Value.int .i64 m = Value.int .i64 e ∧ e ≤ l.length ∧ l.length < f' + e ∧ acc'.length ≤ e ∧ TRow w.heap.size w3 v' acc' ∧ Below w.heap.size w w3 ∧ Glb w3 ∧ Hid (allN l f' e acc' = res) := ⟨m, f, _, rfl, hml, by omega, by rw [List.length_append]; simp only [List.length_cons, List.length_nil]; omega, hfin.out.1, hfin.out.2.1, hfin.out.2.2, HQ⟩
            refine ⟨_, _, _, _, _, _, _, _, _, _, _, _, _, _, _, _, _, _, _, _, _, _, _, _, _, _, _, _, _, hR, rfl⟩
          case measure => show l.length + 1 - (intOf (.int .i64 (m : Int))).toNat < l.length + 1 - (intOf (.int .i64 (e : Int))).toNat; simp only [intOf]; omega
    · rw [if_pos hre] at hq'
      have hre' : (re != 0) = true := by simpa using hre
      have HQ := Lib.hid hq'
      clear hq' hst hre
      go_wp2_with fail
      refine HN.out.mono ?_
      rintro o w1 ⟨rfl, hb1⟩
      have H1 := Lib.hid hb1
      clear hb1
      go_wp2_with fail
      go_quiet (fail)
      go_wp2_with fail
      rw [Exit.noGoto_ret]
      go_ret3
      refine ⟨.slice none 0 0, by rw [← HQ.out]; rfl, ?_, ?_⟩
      · rw [← HQ.out]
        exact TRow.nil _ _
      · exact below_drewN ((HW.out.2.1.trans (H1.out.mono hbs)).alloc (Nat.le_trans hbs H1.out.size) _) _
end Go.Proofs.YtccmhhmdenfecaaGreatDoor
