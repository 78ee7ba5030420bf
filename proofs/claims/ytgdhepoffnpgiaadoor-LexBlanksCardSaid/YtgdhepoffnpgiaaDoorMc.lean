/- The walks of accordionref00.Short and of accordionlaw10.LexPlace. -/
import Derived.Test.YtgdhepoffnpgiaaDoorMb
import Derived.StillTailTactics
import Derived.Deep.RegionWith
namespace Go.Proofs.YtgdhepoffnpgiaaDoor
set_option linter.unusedVariables false
set_option linter.unusedSimpArgs false
open Go.RowKit Go.Shelf
theorem sub_to (l : List UInt8) (j : Nat) (hj : j ≤ l.length) (W : World) : (Instr.slice 9 (.string ⟨l.toArray⟩) none (some (.int .i64 j)) none).run Tryd.prog W = .ok (.string ⟨(l.take j).toArray⟩) W := by
  refine (run_slice_string_h (w := W) (t := 9) (s := ⟨l.toArray⟩) Tryd.underlying9 .i64 j (by omega) (by simp [ByteArray.size]; omega)).trans ?_
  have e : (⟨l.toArray⟩ : ByteArray).extract 0 j = ⟨(l.take j).toArray⟩ := by
    apply ByteArray.ext
    rw [ByteArray.data_extract]
    apply Array.toList_inj.1
    simp
  simp only [Int.toNat_natCast, e]
theorem str_app (a b : List UInt8) : (⟨a.toArray⟩ : ByteArray) ++ ⟨b.toArray⟩ = ⟨(a ++ b).toArray⟩ := by
  apply ByteArray.ext
  rw [ByteArray.data_append]
  simp
theorem str_add (a b : List UInt8) (h : a.length + b.length ≤ 9223372036854775807) (W : World) : (binOp .add 9 (.string ⟨a.toArray⟩) (.string ⟨b.toArray⟩)).run Tryd.prog W = .ok (.string ⟨(a ++ b).toArray⟩) W := by
  have e : (⟨a.toArray⟩ : ByteArray) ++ ⟨b.toArray⟩ = ⟨(a ++ b).toArray⟩ := by
    apply ByteArray.ext
    rw [ByteArray.data_append]
    simp
  simp [go_sem, e, h]
set_option maxHeartbeats 4000000 in
set_option maxRecDepth 100000 in
theorem short_any (s : List UInt8) (n : Nat) (hn : n ≤ 1073741824) (w : World) : Calls Tryd.prog 9 #[strV s, .int .i64 n] w fun e w' => e = .returned (strV (s.take n)) ∧ w' = w := by
  have hs : (⟨s.toArray⟩ : ByteArray).size = s.length := by simp [ByteArray.size]
  unfold strV
  by_cases h : s.length ≤ n
  · have hm : ∀ W, (Builtin.min_ #[3, 3] 3 #[.int .i64 (s.length : Int), .int .i64 (n : Int)]).run Tryd.prog W = .ok (.int .i64 ((s.length : Nat) : Int)) W := fun W => by
      rw [run_min_int2]
      congr 2
      omega
    have hsl := fun W => sub_to s s.length (Nat.le_refl _) W
    rw [List.take_of_length_le (Nat.le_refl _)] at hsl
    rw [List.take_of_length_le h]
    clear h
    go_enter Tryd.func9, Tryd.ntmps9
    go_wp2_with fail
    go_ret
    exact ⟨rfl, rfl⟩
  · have hm : ∀ W, (Builtin.min_ #[3, 3] 3 #[.int .i64 (s.length : Int), .int .i64 (n : Int)]).run Tryd.prog W = .ok (.int .i64 ((n : Nat) : Int)) W := fun W => by
      rw [run_min_int2]
      congr 2
      omega
    have hsl := fun W => sub_to s n (by omega) W
    clear h
    go_enter Tryd.func9, Tryd.ntmps9
    go_wp2_with fail
    go_ret
    exact ⟨rfl, rfl⟩
/-- What Next hands back, taken apart. -/
theorem next_parts (s : List UInt8) (a : Int) (w0 w : World) (hl : s.length ≤ 1073741824) (hW : WG w0 w) : Calls Tryd.prog 10 #[strV s, .int .i64 a] w fun o w' => o = .returned (trV (nextM s a)) ∧ WG w0 w' :=
  (next_any s a w hl hW.g hW.gw).mono fun _ _ ⟨h, hb⟩ => ⟨h, hW.next hb⟩
theorem still_op {P : Program} {w : World} {next : Act → Prop} {o : Oper} {a : Act} {v : Value} (h : (execOp a.eval o).run P w = .ok (.value v) w) (hk : next (a.put o.dst v)) : o.still P a w next := by
  unfold Oper.still
  rw [h]
  exact ⟨rfl, hk⟩
theorem still_en {P : Program} {w : World} {next : Act → Prop} {o : Oper} {a : Act} {v : Value} {f : FuncId} {args : Array Value} (h : (execOp a.eval o).run P w = .ok (.enter f args) w) (hc : Calls P f args w fun e w'' => e = .returned v ∧ w'' = w) (hk : next (a.put o.dst v)) : o.still P a w next := by
  unfold Oper.still
  rw [h]
  exact ⟨rfl, v, hc, hk⟩
theorem nt {b : Bool} (h : b = false) : ¬ b = true := by rw [h]; exact Bool.false_ne_true
set_option maxHeartbeats 8000000 in
set_option maxRecDepth 100000 in
theorem place_any (s b : List UInt8) (w : World) (hG : Glb w) (hB : Gb w.heap.size) : Calls Tryd.prog 5 #[strV s, strV b] w fun e w' => e = .returned (.bool true) ∧ Below w.heap.size w w' := by
  have HS1 := fun W => short_any s 300 (by omega) W
  have HS2 := Lib.hid (fun W => short_any b 60 (by omega) W)
  have hx : (s.take 300).length ≤ 300 := List.length_take_le _ _
  have hy : (b.take 60).length ≤ 60 := List.length_take_le _ _
  have H0 := Lib.hid (WG.refl hG hB)
  clear hG hB
  generalize s.take 300 = x at *
  generalize b.take 60 = y at *
  have hs : (⟨x.toArray⟩ : ByteArray).size = x.length := by simp [ByteArray.size]
  unfold strV at *
  have HS := Lib.hid HS1
  clear HS1
  have HN := Lib.hid (next_parts x 0 w w (by omega) H0.out)
  by_cases h0 : (nextM x 0).2 = 0
  · generalize nextM x 0 = r at *
    obtain ⟨⟨r0, r1, r2, r3, r4, r5⟩, re⟩ := r
    dsimp only at h0
    subst h0
    simp only [trV, tokV, strV] at HN
    go_enter Tryd.func5, Tryd.ntmps5
    go_wp2_with fail
    refine (HS.out _).mono ?_
    rintro e w1 ⟨rfl, rfl⟩
    go_wp2_with fail
    refine HN.out.mono ?_
    rintro e w1 ⟨rfl, hw1⟩
    have H1 := Lib.hid (hw1.next ((Below.refl _ _).alloc (Nat.le_refl _) (.cells #[.int .i64 r0, .int .i64 r1, .int .i64 r2, .int .i64 r3, .int .u64 r4, .string ⟨r5.toArray⟩] 25 (0, 0))))
    clear hw1
    go_wp2_with fail
    refine (works_any _ _ H1.out).mono ?_
    rintro e w2 ⟨rfl, hw2⟩
    have H2 := Lib.hid hw2
    clear hw2
    go_wp2_with fail
    go_ret
    exact ⟨rfl, H2.out.b⟩
  by_cases h1 : (nextM x 0).2 = 101
  · generalize nextM x 0 = r at *
    obtain ⟨⟨r0, r1, r2, r3, r4, r5⟩, re⟩ := r
    dsimp only at h1
    subst h1
    clear h0
    simp only [trV, tokV, strV] at HN
    go_enter Tryd.func5, Tryd.ntmps5
    go_wp2_with fail
    refine (HS.out _).mono ?_
    rintro e w1 ⟨rfl, rfl⟩
    go_wp2_with fail
    refine HN.out.mono ?_
    rintro e w1 ⟨rfl, hw1⟩
    have H1 := Lib.hid (hw1.next ((Below.refl _ _).alloc (Nat.le_refl _) (.cells #[.int .i64 r0, .int .i64 r1, .int .i64 r2, .int .i64 r3, .int .u64 r4, .string ⟨r5.toArray⟩] 25 (0, 0))))
    clear hw1
    go_wp2_with fail
    refine (works_any _ _ H1.out).mono ?_
    rintro e w2 ⟨rfl, hw2⟩
    have H2 := Lib.hid hw2
    clear hw2
    go_wp2_with fail
    go_ret
    exact ⟨rfl, H2.out.b⟩
  obtain ⟨k, hk, hnk, hmin, hbeh⟩ := next_place h0 h1
  rw [hnk] at HN
  have hfl : ∀ c, x[k]? = some c → failB (x.take (k + 1) ++ y) 0 k (nextM x 0).2 = true := fun c hc => by
    have hlt : k < x.length := (List.getElem?_eq_some_iff.1 hc).1
    have e1 : x.take (k + 1) ++ y = x.take k ++ c :: y := by
      rw [List.take_add_one, hc]; simp
    unfold failB
    rw [e1, hbeh c y hc, hnk]
    exact decide_eq_true rfl
  have HM := next_parts (x.take k) 0 w
  generalize (nextM x 0).2 = er at *
  have he0 : (er == 0) = false := by simpa using h0
  have he1 : (er == 101) = false := by simpa using h1
  simp only [trV, tokV, strV, wrongT] at HN
  have hkz : ¬ (x.length : Int) < (k : Int) := by omega
  have hsl := fun W => sub_to x k hk W
  have hkl : (x.take k).length ≤ 1073741824 := by rw [List.length_take]; omega
  generalize nextM (x.take k) 0 = r at *
  obtain ⟨⟨r0, r1, r2, r3, r4, r5⟩, re⟩ := r
  simp only [trV, tokV, strV] at HM
  have HM2 := Lib.hid HM
  have HF := Lib.hid hfl
  dsimp only at hmin
  have hfin : (re != 0 && r1 != (k : Int)) = false := by
    rcases hmin with h | h <;> simp [h]
  have HFIN := Lib.hid hfin
  clear hnk hmin hbeh hfl h0 h1 HM hfin
  have hz2 : (re != 0) = false ∨ ((re != 0) = true ∧ (r1 != (k : Int)) = false) := by
    have := HFIN.out
    revert this
    cases (re != 0) <;> simp
  clear HFIN
  have HW := Lib.hid (fun (W : World) (h : WG w W) => works_any w W h)
  have HFl := Lib.hid (fun (W : World) (h : WG w W) => fails_any (x.take (k + 1) ++ y) 0 k er w W (by rw [List.length_append, List.length_take]; omega) h)
  by_cases hend : k = x.length
  · have hez : ((k : Int) == (x.length : Int)) = true := by rw [hend]; simp
    clear hend HF
    rcases hz2 with hz2 | ⟨hz2, hz3⟩
    all_goals
      go_enter Tryd.func5, Tryd.ntmps5
      go_wp2_with fail
      refine (HS.out _).mono ?_
      rintro e w1 ⟨rfl, rfl⟩
      go_wp2_with fail
      refine HN.out.mono ?_
      rintro e w1 ⟨rfl, hw1⟩
      have H1 := Lib.hid (hw1.next ((Below.refl _ _).alloc (Nat.le_refl _) (.cells #[.int .i64 0, .int .i64 k, .int .i64 k, .int .i64 0, .int .u64 0, .string ⟨[].toArray⟩] 25 (0, 0))))
      clear hw1
      go_wp2_with fail
      refine (HM2.out _ hkl H1.out).mono ?_
      rintro e w2 ⟨rfl, hw2⟩
      have H2 := Lib.hid (hw2.next ((Below.refl _ _).alloc (Nat.le_refl _) (.cells #[.int .i64 r0, .int .i64 r1, .int .i64 r2, .int .i64 r3, .int .u64 r4, .string ⟨r5.toArray⟩] 25 (0, 0))))
      clear hw2 HN HM2 H1
      go_upto_region 11 with fail
      refine wp_named (fun wn => WG _ wn) H2.out ?_
      clear H2 HS2 HS H0 hsl hkl hs
      rintro wn hwn
      refine wp_region_still_tail 17 (by kernel_rfl) (by kernel_rfl) ?_
      simp only [List.take_succ_cons, List.take_zero, List.drop_succ_cons, List.drop_zero]
      unfold wpStill
      rw [if_pos (by kernel_rfl)]
      refine still_op (v := .int .i64 k) (by kernel_rfl) ?_
      simp only [Act.put, List.setIfInBounds_toArray, List.set_cons_zero, List.set_cons_succ]
      unfold wpStill
      rw [if_pos (by kernel_rfl)]
      refine still_op (v := .string ⟨x.toArray⟩) (by kernel_rfl) ?_
      simp only [Act.put, List.setIfInBounds_toArray, List.set_cons_zero, List.set_cons_succ]
      unfold wpStill
      rw [if_pos (by kernel_rfl)]
      refine still_op (v := .int .i64 x.length) (by kernel_rfl) ?_
      simp only [Act.put, List.setIfInBounds_toArray, List.set_cons_zero, List.set_cons_succ]
      unfold wpStill
      rw [if_pos (by kernel_rfl)]
      refine still_op (v := .bool true) (by go_simp) ?_
      simp only [Act.put, List.setIfInBounds_toArray, List.set_cons_zero, List.set_cons_succ]
      unfold wpStill
      rw [if_pos (by kernel_rfl)]
      refine still_op (v := .bool true) (by kernel_rfl) ?_
      simp only [Act.put, List.setIfInBounds_toArray, List.set_cons_zero, List.set_cons_succ]
      unfold wpStill
      rw [if_neg (nt (by kernel_rfl))]
      simp only [Act.put, List.setIfInBounds_toArray, List.set_cons_zero, List.set_cons_succ]
      unfold wpStill
      rw [if_neg (nt (by kernel_rfl))]
      simp only [Act.put, List.setIfInBounds_toArray, List.set_cons_zero, List.set_cons_succ]
      unfold wpStill
      rw [if_neg (nt (by kernel_rfl))]
      simp only [Act.put, List.setIfInBounds_toArray, List.set_cons_zero, List.set_cons_succ]
      unfold wpStill
      rw [if_neg (nt (by kernel_rfl))]
      simp only [Act.put, List.setIfInBounds_toArray, List.set_cons_zero, List.set_cons_succ]
      unfold wpStill
      rw [if_neg (nt (by kernel_rfl))]
      simp only [Act.put, List.setIfInBounds_toArray, List.set_cons_zero, List.set_cons_succ]
      unfold wpStill
      rw [if_neg (nt (by kernel_rfl))]
      simp only [Act.put, List.setIfInBounds_toArray, List.set_cons_zero, List.set_cons_succ]
      unfold wpStill
      rw [if_neg (nt (by kernel_rfl))]
      simp only [Act.put, List.setIfInBounds_toArray, List.set_cons_zero, List.set_cons_succ]
      unfold wpStill
      rw [if_neg (nt (by kernel_rfl))]
      simp only [Act.put, List.setIfInBounds_toArray, List.set_cons_zero, List.set_cons_succ]
      unfold wpStill
      rw [if_neg (nt (by kernel_rfl))]
      simp only [Act.put, List.setIfInBounds_toArray, List.set_cons_zero, List.set_cons_succ]
      unfold wpStill
      rw [if_neg (nt (by kernel_rfl))]
      simp only [Act.put, List.setIfInBounds_toArray, List.set_cons_zero, List.set_cons_succ]
      unfold wpStill
      rw [if_pos (by kernel_rfl)]
      refine still_op (v := .bool true) (by kernel_rfl) ?_
      simp only [Act.put, List.setIfInBounds_toArray, List.set_cons_zero, List.set_cons_succ]
      unfold wpStill
      rw [if_pos (by kernel_rfl)]
      refine still_op (v := .bool true) (by kernel_rfl) ?_
      simp only [Act.put, List.setIfInBounds_toArray, List.set_cons_zero, List.set_cons_succ]
      unfold wpStill
      go_wp2_with fail
      refine (HW.out _ (hwn.next ((Below.refl _ _).drew))).mono ?_
      rintro e w3 ⟨rfl, hw3⟩
      have HE := Lib.hid hw3.b
      clear hw3
      go_wp2_with fail
      go_ret
      exact ⟨rfl, HE.out⟩
  · have hez : ((k : Int) == (x.length : Int)) = false := by simpa using fun e => hend (by omega)
    have hkl1 : k + 1 ≤ x.length := by omega
    have hsl1 := fun W => sub_to x (k + 1) hkl1 W
    rw [Int.natCast_add, Int.natCast_one] at hsl1
    have q1 : IntKind.i64.wrap ((k : Int) + 1) = k + 1 := IntWalk.i64_in _ (by omega)
    have hadd := str_app (x.take (k + 1)) y
    have haddl : (x.take (k + 1)).length + y.length ≤ 9223372036854775807 := by rw [List.length_take]; omega
    have hfb := HF.out x[k] (List.getElem?_eq_getElem (by omega))
    rw [hfb] at HFl
    unfold strV at HFl
    obtain ⟨xy, hxy⟩ : ∃ z, z = x.take (k + 1) ++ y := ⟨_, rfl⟩
    rw [← hxy] at HFl
    rw [← hxy] at hadd
    clear hxy
    generalize x.take (k + 1) = tx at *
    clear hend HF hfb
    rcases hz2 with hz2 | ⟨hz2, hz3⟩
    all_goals
      go_enter Tryd.func5, Tryd.ntmps5
      go_wp2_with fail
      refine (HS.out _).mono ?_
      rintro e w1 ⟨rfl, rfl⟩
      go_wp2_with fail
      refine HN.out.mono ?_
      rintro e w1 ⟨rfl, hw1⟩
      have H1 := Lib.hid (hw1.next ((Below.refl _ _).alloc (Nat.le_refl _) (.cells #[.int .i64 0, .int .i64 k, .int .i64 k, .int .i64 0, .int .u64 0, .string ⟨[].toArray⟩] 25 (0, 0))))
      clear hw1
      go_wp2_with fail
      refine (HM2.out _ hkl H1.out).mono ?_
      rintro e w2 ⟨rfl, hw2⟩
      have H2 := Lib.hid (hw2.next ((Below.refl _ _).alloc (Nat.le_refl _) (.cells #[.int .i64 r0, .int .i64 r1, .int .i64 r2, .int .i64 r3, .int .u64 r4, .string ⟨r5.toArray⟩] 25 (0, 0))))
      clear hw2 HN HM2 H1
      go_upto_region 11 with fail
      refine wp_named (fun wn => WG _ wn) H2.out ?_
      clear H2 HS H0 hsl hkl hs
      rintro wn hwn
      refine wp_region_still_tail 14 (by kernel_rfl) (by kernel_rfl) ?_
      simp only [List.take_succ_cons, List.take_zero, List.drop_succ_cons, List.drop_zero]
      unfold wpStill
      rw [if_pos (by kernel_rfl)]
      refine still_op (v := .int .i64 k) (by kernel_rfl) ?_
      simp only [Act.put, List.setIfInBounds_toArray, List.set_cons_zero, List.set_cons_succ]
      unfold wpStill
      rw [if_pos (by kernel_rfl)]
      refine still_op (v := .string ⟨x.toArray⟩) (by kernel_rfl) ?_
      simp only [Act.put, List.setIfInBounds_toArray, List.set_cons_zero, List.set_cons_succ]
      unfold wpStill
      rw [if_pos (by kernel_rfl)]
      refine still_op (v := .int .i64 x.length) (by kernel_rfl) ?_
      simp only [Act.put, List.setIfInBounds_toArray, List.set_cons_zero, List.set_cons_succ]
      unfold wpStill
      rw [if_pos (by kernel_rfl)]
      refine still_op (v := .bool false) (by go_simp) ?_
      simp only [Act.put, List.setIfInBounds_toArray, List.set_cons_zero, List.set_cons_succ]
      unfold wpStill
      rw [if_pos (by kernel_rfl)]
      refine still_op (v := .bool false) (by kernel_rfl) ?_
      simp only [Act.put, List.setIfInBounds_toArray, List.set_cons_zero, List.set_cons_succ]
      unfold wpStill
      rw [if_pos (by kernel_rfl)]
      refine still_op (v := .string ⟨x.toArray⟩) (by kernel_rfl) ?_
      simp only [Act.put, List.setIfInBounds_toArray, List.set_cons_zero, List.set_cons_succ]
      unfold wpStill
      rw [if_pos (by kernel_rfl)]
      refine still_op (v := .int .i64 k) (by kernel_rfl) ?_
      simp only [Act.put, List.setIfInBounds_toArray, List.set_cons_zero, List.set_cons_succ]
      unfold wpStill
      rw [if_pos (by kernel_rfl)]
      refine still_op (v := .int .i64 ((k : Int) + 1)) (by go_simp) ?_
      simp only [Act.put, List.setIfInBounds_toArray, List.set_cons_zero, List.set_cons_succ]
      unfold wpStill
      rw [if_pos (by kernel_rfl)]
      refine still_op (v := .string ⟨tx.toArray⟩) (by go_simp) ?_
      simp only [Act.put, List.setIfInBounds_toArray, List.set_cons_zero, List.set_cons_succ]
      unfold wpStill
      rw [if_pos (by kernel_rfl)]
      refine still_op (v := .string ⟨b.toArray⟩) (by kernel_rfl) ?_
      simp only [Act.put, List.setIfInBounds_toArray, List.set_cons_zero, List.set_cons_succ]
      unfold wpStill
      rw [if_pos (by kernel_rfl)]
      refine still_en (v := .string ⟨y.toArray⟩) (by kernel_rfl) (HS2.out _) ?_
      simp only [Act.put, List.setIfInBounds_toArray, List.set_cons_zero, List.set_cons_succ]
      unfold wpStill
      rw [if_pos (by kernel_rfl)]
      refine still_op (v := .string ⟨xy.toArray⟩) (by go_simp) ?_
      simp only [Act.put, List.setIfInBounds_toArray, List.set_cons_zero, List.set_cons_succ]
      unfold wpStill
      rw [if_pos (by kernel_rfl)]
      refine still_op (v := .int .i64 k) (by kernel_rfl) ?_
      simp only [Act.put, List.setIfInBounds_toArray, List.set_cons_zero, List.set_cons_succ]
      unfold wpStill
      rw [if_pos (by kernel_rfl)]
      refine still_op (v := .int .i64 er) (by kernel_rfl) ?_
      simp only [Act.put, List.setIfInBounds_toArray, List.set_cons_zero, List.set_cons_succ]
      unfold wpStill
      go_wp2_with fail
      refine (HFl.out _ (hwn.next ((Below.refl _ _).drew))).mono ?_
      rintro e w3 ⟨rfl, hw3⟩
      have HW3 := Lib.hid hw3
      clear hw3
      go_wp2_with fail
      refine (HW.out _ HW3.out).mono ?_
      rintro e w4 ⟨rfl, hw4⟩
      have HE := Lib.hid hw4.b
      clear hw4
      go_wp2_with fail
      go_ret
      exact ⟨rfl, HE.out⟩
end Go.Proofs.YtgdhepoffnpgiaaDoor
