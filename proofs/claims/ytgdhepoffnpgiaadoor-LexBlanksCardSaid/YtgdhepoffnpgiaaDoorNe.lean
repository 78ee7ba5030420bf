/- The walks of accordionref00.Bring and of accordionlaw10.LexNumbers. -/
import Derived.Test.YtgdhepoffnpgiaaDoorMc
import Derived.Test.YtgdhepoffnpgiaaDoorNc
import Derived.Test.YtgdhepoffnpgiaaDoorNd
namespace Go.Proofs.YtgdhepoffnpgiaaDoor
set_option linter.unusedVariables false
set_option linter.unusedSimpArgs false
open Go.RowKit Go.Shelf
set_option maxHeartbeats 4000000 in
set_option maxRecDepth 100000 in
theorem bring_any (i n : Int) (hn : 1 ≤ n) (hn2 : n ≤ 1000000) (h0 : -9223372036854775808 ≤ i) (h1 : i ≤ 9223372036854775807) (w : World) : Calls Tryd.prog 17 #[.int .i64 i, .int .i64 n] w fun e w' => e = .returned (.int .i64 (i % n)) ∧ w' = w := by
  have hnz : (n == 0) = false := by simp; omega
  have hb1 := Int.emod_nonneg i (show n ≠ 0 by omega)
  have hb2 := Int.emod_lt_of_pos i (show 0 < n by omega)
  obtain ⟨t, ht⟩ : ∃ t, t = i.tmod n := ⟨_, rfl⟩
  have hte : (t < 0 ∧ i % n = t + n) ∨ (0 ≤ t ∧ i % n = t) := by
    rw [ht]
    rcases Int.le_total 0 i with hi | hi
    · right
      rw [Int.tmod_eq_emod_of_nonneg hi]
      exact ⟨hb1, rfl⟩
    · have h := Int.tmod_eq_emod (a := i) (b := n)
      by_cases hd : n ∣ i ∨ 0 ≤ i
      · rw [if_pos (by rcases hd with h | h; exact .inr h; exact .inl h)] at h
        right; omega
      · rw [if_neg (by rintro (g | g); exact hd (.inr g); exact hd (.inl g))] at h
        left
        have hna : (n.natAbs : Int) = n := by omega
        rw [hna] at h
        omega
  have q1 : i.tmod n = t := ht.symm
  have q1b : IntKind.i64.wrap t = t := IntWalk.i64_in _ (by omega)
  generalize i % n = r at *
  rcases hte with ⟨hlt, hr⟩ | ⟨hge, hr⟩
  · have q2 : IntKind.i64.wrap (t + n) = r := by rw [hr]; exact IntWalk.i64_in _ (by omega)
    clear hr ht hb1 hb2
    go_enter Tryd.func17, Tryd.ntmps17
    go_wp2_with fail
    go_ret
    exact ⟨rfl, rfl⟩
  · obtain rfl : r = t := hr
    have hge' : ¬ r < 0 := by omega
    clear ht hb1 hb2
    go_enter Tryd.func17, Tryd.ntmps17
    go_wp2_with fail
    go_ret
    exact ⟨rfl, rfl⟩
/-- What LexNumbers keeps while it calls: the wanted token in a block of its own. -/
structure ST (w : World) (G : Nat) (o : Obj) (wn : World) : Prop where
  g : WG w wn
  z : G < wn.heap.size
  o : wn.heap[G]? = some o
theorem ST.next {w : World} {G : Nat} {o : Obj} {wn w1 : World} (h : ST w G o wn) (hb : Below wn.heap.size wn w1) : ST w G o w1 := ⟨h.g.next hb, Nat.lt_of_lt_of_le h.z hb.size, (hb.block G h.z).trans h.o⟩
theorem ST.gives {w : World} {G : Nat} {o : Obj} {wn : World} (h : ST w G o wn) {s : List UInt8} {a : Int} {t : Tok} (hb : giveB s a t = true) (hl : s.length ≤ 1073741824) :
    Calls Tryd.prog 19 #[strV s, .int .i64 a, tokV t] wn fun e w' => e = .returned (.bool true) ∧ ST w G o w' :=
  (gives_yes s a t hb hl (WG.refl h.g.g h.g.gw)).mono fun _ _ ⟨he, hw⟩ => ⟨he, h.next hw.b⟩
theorem ST.fails {w : World} {G : Nat} {o : Obj} {wn : World} (h : ST w G o wn) {s : List UInt8} {a p x : Int} (hb : failB s a p x = true) (hl : s.length ≤ 1073741824) :
    Calls Tryd.prog 16 #[strV s, .int .i64 a, .int .i64 p, .int .i64 x] wn fun e w' => e = .returned (.bool true) ∧ ST w G o w' :=
  (fails_yes s a p x hb hl (WG.refl h.g.g h.g.gw)).mono fun _ _ ⟨he, hw⟩ => ⟨he, h.next hw.b⟩
theorem ST.works {w : World} {G : Nat} {o : Obj} {wn : World} (h : ST w G o wn) : Calls Tryd.prog 13 #[] wn fun e w' => e = .returned (.bool true) ∧ ST w G o w' :=
  (works_any wn wn (WG.refl h.g.g h.g.gw)).mono fun _ _ ⟨he, hw⟩ => ⟨he, h.next hw.b⟩
theorem neg_u64n {u : Nat} (h : u ≤ 9223372036854775808) : IntKind.i64.wrap (IntKind.u64.wrap (-(u : Int))) = -(u : Int) := neg_u64 h
def rowT (t : Tok) : Obj := .cells #[.int .i64 t.kind, .int .i64 t.from_, .int .i64 t.to_, .int .i64 t.n, .int .u64 t.u, .string ⟨t.text.toArray⟩] 25 (0, 0)
theorem row_cells {wn : World} {G : Nat} {t : Tok} (h : wn.heap[G]? = some (rowT t)) : wn.cell? ⟨G, 0, none⟩ = some (.int .i64 t.kind) ∧ wn.cell? ⟨G, 1, none⟩ = some (.int .i64 t.from_) ∧ wn.cell? ⟨G, 2, none⟩ = some (.int .i64 t.to_) ∧ wn.cell? ⟨G, 3, none⟩ = some (.int .i64 t.n) ∧ wn.cell? ⟨G, 4, none⟩ = some (.int .u64 t.u) ∧ wn.cell? ⟨G, 5, none⟩ = some (.string ⟨t.text.toArray⟩) :=
  ⟨cell_of_row _ _ _ _ _ _ h, cell_of_row _ _ _ _ _ _ h, cell_of_row _ _ _ _ _ _ h, cell_of_row _ _ _ _ _ _ h, cell_of_row _ _ _ _ _ _ h, cell_of_row _ _ _ _ _ _ h⟩
set_option maxHeartbeats 16000000 in
set_option maxRecDepth 100000 in
theorem numbers_any (u : Nat) (hu : u < 18446744073709551616) (d : Int) (hd0 : -9223372036854775808 ≤ d) (hd1 : d ≤ 9223372036854775807) (w : World) (hG : Glb w) (hB : Gb w.heap.size) (htab : Lib.TabIs Tryd.prog w "internal/strconv.uint64pow10" .u64 Lib.pow10Tab) :
    Calls Tryd.prog 6 #[.int .u64 u, .int .i64 d] w fun e w' => e = .returned (.bool true) ∧ Below w.heap.size w w' := by
  have HBr := Lib.hid ((bring_any d 10 (by omega) (by omega) hd0 hd1 w).mono fun _ _ h => And.intro h.1 h.2.symm)
  obtain ⟨e, he, he10⟩ : ∃ e : Nat, d % 10 = e ∧ e < 10 := ⟨(d % 10).toNat, by omega, by omega⟩
  rw [he] at HBr
  have HF := Lib.hid (fu_any u hu w htab)
  have H0 := Lib.hid (WG.refl hG hB)
  have hDl : (Lib.decDigits u).length ≤ 20 := by rw [Lib.decDigits_length]; exact Lib.nDigits_le20 u hu
  have hEl : (Lib.decDigits e).length ≤ 20 := by rw [Lib.decDigits_length]; exact Lib.nDigits_le20 e (by omega)
  have G1 := num_plain u [] hu (.inr rfl) rfl rfl
  have G2 := num_plain u [44] hu (.inr (by decide)) (by decide) (by decide)
  have G3 := num_plain u [45] hu (.inr (by decide)) (by decide) (by decide)
  have G4 := num_neg u hu
  have G5 := num_more u e
  have G6 := num_zero e he10
  rw [List.append_nil] at G1
  have a44 := str_app (Lib.decDigits u) [44]
  have a45 := str_app (Lib.decDigits u) [45]
  have an := str_app [45] (Lib.decDigits u)
  have am := str_app (Lib.decDigits u) (Lib.decDigits e)
  have HI := Lib.hid (fun W => Tryd.strconv_Itoa_small e (by omega) W)
  have hml : (Lib.decDigits u ++ Lib.decDigits e).length ≤ 40 := by rw [List.length_append]; omega
  have hu0 : u = 0 → Lib.decDigits u = Lib.decDigits 0 := fun h => by rw [h]
  clear hd0 hd1 he htab hG hB
  unfold strV at HF
  generalize hDD : Lib.decDigits u = D at *
  generalize Lib.decDigits e = E at *
  rw [show [45] ++ D = 45 :: D from rfl] at an
  obtain ⟨D1, hD1⟩ : ∃ z, z = D ++ [44] := ⟨_, rfl⟩
  obtain ⟨D2, hD2⟩ : ∃ z, z = D ++ [45] := ⟨_, rfl⟩
  obtain ⟨D3, hD3⟩ : ∃ z, z = 45 :: D := ⟨_, rfl⟩
  obtain ⟨M, hM⟩ : ∃ z, z = D ++ E := ⟨_, rfl⟩
  have l1 : D1.length ≤ 100 := by rw [hD1, List.length_append]; simp only [List.length_cons, List.length_nil]; omega
  have l2 : D2.length ≤ 100 := by rw [hD2, List.length_append]; simp only [List.length_cons, List.length_nil]; omega
  have l3 : D3.length ≤ 100 := by rw [hD3, List.length_cons]; omega
  have l4 : M.length ≤ 100 := by rw [hM]; omega
  rw [← hD1] at G2 a44
  rw [← hD2] at G3 a45
  rw [← hD3] at G4 an
  rw [← hM] at G5 am
  clear hD1 hD2 hD3 hml
  have hsD : (⟨D.toArray⟩ : ByteArray).size = D.length := by simp [ByteArray.size]
  have hsM : (⟨M.toArray⟩ : ByteArray).size = M.length := by simp [ByteArray.size]
  have b44 : D.length + 1 ≤ 9223372036854775807 := by omega
  have bn : 1 + D.length ≤ 9223372036854775807 := by omega
  have bm : D.length + E.length ≤ 9223372036854775807 := by omega
  have qlen : IntKind.i64.wrap (1 + (D.length : Int)) = 1 + (D.length : Int) := IntWalk.i64_in _ (by omega)
  obtain ⟨mm, hmm⟩ : ∃ m : Int, m = IntKind.i64.wrap (IntKind.u64.wrap (-(u : Int))) := ⟨_, rfl⟩
  have hmn : u ≤ 9223372036854775808 → mm = -(u : Int) := fun h => by rw [hmm, neg_u64n h]
  obtain ⟨m1, hm1⟩ : ∃ m : Int, m = IntKind.i64.wrap (u : Int) := ⟨_, rfl⟩
  have hmp : u < 9223372036854775808 → m1 = (u : Int) := fun h => by rw [hm1]; exact IntWalk.i64_in _ (by omega)
  have HM := Lib.hid (And.intro hmn hmp)
  have HG := Lib.hid (And.intro G1 (And.intro G2 (And.intro G3 (And.intro G4 (And.intro G5 (And.intro G6 (And.intro hu0 (And.intro hM hDD))))))))
  clear G1 G2 G3 G4 G5 G6 hu0 hmn hmp hM hDD
  have HU := Lib.hid hu
  clear hu
  have qneg : IntKind.i64.wrap (IntKind.u64.wrap (-(u : Int))) = mm := hmm.symm
  have qpos : IntKind.i64.wrap (u : Int) = m1 := hm1.symm
  have hz0 : (0 : Int) ≤ (u : Int) := by omega
  clear hmm hm1
  have hcase : (2 ^ 63 ≤ u ∧ (9223372036854775808 : Int) ≤ (u : Int)) ∨ (¬ 2 ^ 63 ≤ u ∧ ¬ (9223372036854775808 : Int) ≤ (u : Int)) := by omega
  obtain ⟨z, hz⟩ : ∃ z : Int, z = (u : Int) := ⟨_, rfl⟩
  rw [← hz] at HF qneg qpos hz0 hcase
  rw [← hz]
  have HZ := Lib.hid hz
  clear hz
  go_enter Tryd.func6, Tryd.ntmps6
  go_wp2_with fail
  refine HBr.out.mono ?_
  rintro o w1 ⟨rfl, rfl⟩
  go_wp2_with fail
  refine HF.out.mono ?_
  rintro o w2 ⟨rfl, hb⟩
  have H1 := Lib.hid (H0.out.next hb)
  clear hb HBr HF
  obtain ⟨wk, wN, wU, hwt⟩ : ∃ wk wN wU, wantT u D.length = ⟨wk, 0, D.length, wN, wU, []⟩ := by
    unfold wantT
    split
    · exact ⟨_, _, _, rfl⟩
    · exact ⟨_, _, _, rfl⟩
  have HC := Lib.hid hcase
  have HWT := Lib.hid hwt
  clear hcase hwt
  go_upto_if 22 with fail
  go_cut [26] (fun s26 wx => ST w w2.heap.size (rowT ⟨wk, 0, D.length, wN, wU, []⟩) wx)
  case first =>
    rcases HC.out with ⟨c1, c2⟩ | ⟨c1, c2⟩
    · have ht : (⟨wk, 0, D.length, wN, wU, []⟩ : Tok) = ⟨11, 0, D.length, 0, u, []⟩ := by rw [← HWT.out]; unfold wantT; rw [if_pos c1]
      obtain ⟨rfl, -, -, rfl, rfl, -⟩ := Tok.mk.inj ht
      clear ht c1
      go_wp2_with fail
      go_meet
      refine ⟨H1.out.next ((Below.refl _ _).alloc (Nat.le_refl _) _), by simp, ?_⟩
      unfold rowT
      rw [← HZ.out]
      exact heap_alloc_new _ _
    · have ht : (⟨wk, 0, D.length, wN, wU, []⟩ : Tok) = ⟨10, 0, D.length, u, 0, []⟩ := by rw [← HWT.out]; unfold wantT; rw [if_neg c1]
      obtain ⟨rfl, -, -, rfl, rfl, -⟩ := Tok.mk.inj ht
      have hm : m1 = z := by rw [HM.out.2 (by omega), HZ.out]
      have c3 : ¬ (9223372036854775808 : Int) ≤ z := by omega
      have HMZ := Lib.hid hm
      clear ht c1 c2 hm
      go_wp2_with fail
      go_meet
      refine ⟨H1.out.next ((Below.refl _ _).alloc (Nat.le_refl _) _), by simp, ?_⟩
      unfold rowT
      dsimp only
      rw [← HZ.out, HMZ.out]
      exact heap_alloc_new _ _
  case rest =>
  have HG1 := Lib.hid (show giveB D 0 ⟨wk, 0, D.length, wN, wU, []⟩ = true by unfold giveB; rw [HG.out.1, HWT.out]; simp)
  have HG2 := Lib.hid (show giveB D1 0 ⟨wk, 0, D.length, wN, wU, []⟩ = true by unfold giveB; rw [HG.out.2.1, HWT.out]; simp)
  have HG3 := Lib.hid (show giveB D2 0 ⟨wk, 0, D.length, wN, wU, []⟩ = true by unfold giveB; rw [HG.out.2.2.1, HWT.out]; simp)
  obtain ⟨k0, k1, k2, k3, k4, k5⟩ := row_cells hcut.o
  dsimp only at k0 k1 k2 k3 k4 k5
  have HX := Lib.hid (hcut.gives HG1.out (by omega))
  simp only [tokV, strV] at HX
  clear hcut
  go_wp2_with fail
  refine HX.out.mono ?_
  rintro o w3 ⟨rfl, h3⟩
  clear HX k0 k1 k2 k3 k4 k5
  obtain ⟨k0, k1, k2, k3, k4, k5⟩ := row_cells h3.o
  dsimp only at k0 k1 k2 k3 k4 k5
  have HX := Lib.hid (h3.gives HG2.out (by omega))
  simp only [tokV, strV] at HX
  clear h3
  go_wp2_with fail
  refine HX.out.mono ?_
  rintro o w4 ⟨rfl, h4⟩
  clear HX k0 k1 k2 k3 k4 k5
  obtain ⟨k0, k1, k2, k3, k4, k5⟩ := row_cells h4.o
  dsimp only at k0 k1 k2 k3 k4 k5
  have HX := Lib.hid (h4.gives HG3.out (by omega))
  simp only [tokV, strV] at HX
  clear h4
  go_wp2_with fail
  refine HX.out.mono ?_
  rintro o w5 ⟨rfl, h5⟩
  clear HX k0 k1 k2 k3 k4 k5
  have HNC : (2 ^ 63 < u ∧ (9223372036854775808 : Int) < z) ∨ (¬ 2 ^ 63 < u ∧ ¬ (9223372036854775808 : Int) < z ∧ z ≤ 9223372036854775808) := by have := HZ.out; omega
  have HNC2 := Lib.hid HNC
  clear HNC HG1 HG2 HG3 HC
  go_upto_region 9 with fail
  refine wp_named (fun wn => ST w w2.heap.size (rowT ⟨wk, 0, D.length, wN, wU, []⟩) wn ∧ wn.heap[w5.heap.size]? = some (rowT ⟨10, 0, 1 + D.length, mm, 0, []⟩) ∧ w5.heap.size < wn.heap.size) ⟨h5.next ((Below.refl _ _).alloc (Nat.le_refl _) _), heap_alloc_new _ _, by simp⟩ ?_
  clear h5
  generalize w5.heap.size = G7 at *
  rintro w6 ⟨h6, hg7, hz7⟩
  rcases HNC2.out with ⟨c1, c2⟩ | ⟨c1, c2, c3⟩
  case' inl =>
    have HX := Lib.hid (h6.fails (s := D3) (a := 0) (p := 0) (x := 101) (by unfold failB; rw [HG.out.2.2.2.1, if_pos c1]; rfl) (by omega))
    have c3 : ¬ z ≤ 9223372036854775808 := by omega
    unfold strV at HX
    clear h6 hg7 hz7 c1 HNC2
    go_wp2_with fail
    refine HX.out.mono ?_
    rintro o w7 ⟨rfl, h7⟩
    clear HX
  case' inr =>
    obtain ⟨k0, k1, k2, k3, k4, k5⟩ := row_cells hg7
    dsimp only at k0 k1 k2 k3 k4 k5
    have HX := Lib.hid (h6.gives (s := D3) (a := 0) (t := ⟨10, 0, 1 + D.length, mm, 0, []⟩) (by unfold giveB; rw [HG.out.2.2.2.1, if_neg c1, HM.out.1 (by omega)]; simp) (by omega))
    simp only [tokV, strV] at HX
    clear h6 hg7 c1 HNC2
    go_wp2_with fail
    refine HX.out.mono ?_
    rintro o w7 ⟨rfl, h7⟩
    clear HX k0 k1 k2 k3 k4 k5
  all_goals
    go_wp2_with fail
    refine (HI.out _).mono ?_
    rintro o w8 ⟨rfl, rfl⟩
    clear c2 c3
    go_upto_region 12 with fail
    by_cases hu0 : u = 0
    · have hgm : giveB M 0 ⟨wk, 0, D.length, wN, wU, []⟩ = true := by
        obtain ⟨-, -, -, -, -, g6, g7, g8, -⟩ := HG.out
        have hW := HWT.out
        rw [hu0, g7 hu0] at hW
        unfold giveB
        rw [g8, g7 hu0, g6, hW]
        simp
      have HGM := Lib.hid hgm
      have hz00 : (z == 0) = true := by have := HZ.out; simp; omega
      clear hgm hu0
      obtain ⟨k0, k1, k2, k3, k4, k5⟩ := row_cells h7.o
      dsimp only at k0 k1 k2 k3 k4 k5
      have HX := Lib.hid (h7.gives HGM.out (by omega))
      simp only [tokV, strV] at HX
      clear h7
      go_wp2_with fail
      refine HX.out.mono ?_
      rintro o w9 ⟨rfl, h9⟩
      clear HX k0 k1 k2 k3 k4 k5
      have HX := Lib.hid (h9.works)
      clear h9
      go_wp2_with fail
      refine HX.out.mono ?_
      rintro o wz ⟨rfl, hE⟩
      have HE := Lib.hid hE.g.b
      clear hE HX
      go_wp2_with fail
      go_ret
      exact ⟨rfl, HE.out⟩
    have hz00 : (z == 0) = false := by have := HZ.out; simp; omega
    have hup : 0 < u := Nat.pos_of_ne_zero hu0
    have hze0 : (0 : Int) ≤ (e : Int) := by omega
    have hze9 : (e : Int) ≤ 9 := by omega
    have q3 : IntKind.u64.wrap (e : Int) = e := IntWalk.u64_in _ (by omega)
    obtain ⟨m, hm⟩ : ∃ m : Int, m = 18446744073709551615 - e := ⟨_, rfl⟩
    have q4 : IntKind.u64.wrap (18446744073709551615 - (e : Int)) = m := by rw [hm]; exact IntWalk.u64_in _ (by omega)
    have hm0 : 0 ≤ m := by omega
    obtain ⟨q, hqq⟩ : ∃ q : Int, q = m / 10 := ⟨_, rfl⟩
    have q5 : m / 10 = q := hqq.symm
    have q6 : m.tdiv 10 = q := by rw [Int.tdiv_eq_ediv_of_nonneg hm0]; exact q5
    have q9 : IntKind.u64.wrap q = q := IntWalk.u64_in _ (by omega)
    have hzu := HZ.out
    have hg := HG.out.2.2.2.2.1 hup he10
    by_cases hov : z ≤ q
    case' neg =>
      have hnv : q < z := by omega
      have HX := Lib.hid (h7.fails (s := M) (a := 0) (p := 0) (x := 101) (by unfold failB; rw [hg, if_pos (by omega)]; rfl) (by omega))
      unfold strV at HX
      clear hg hzu hm hqq hov h7 hu0 hup
      generalize (e : Int) = ez at *
      go_wp2_with fail
      refine HX.out.mono ?_
      rintro o w9 ⟨rfl, h9⟩
      clear HX
      have HX := Lib.hid (h9.works)
      clear h9
      go_wp2_with fail
      refine HX.out.mono ?_
      rintro o wz ⟨rfl, hE⟩
      have HE := Lib.hid hE.g.b
      clear hE HX
      go_wp2_with fail
      go_ret
      exact ⟨rfl, HE.out⟩
    have hnv : ¬ q < z := by omega
    have hb : 10 * u + e < 2 ^ 64 := by omega
    rw [if_neg (by omega)] at hg
    obtain ⟨y, hy⟩ : ∃ y : Int, y = 10 * z := ⟨_, rfl⟩
    obtain ⟨y2, hy2⟩ : ∃ y2 : Int, y2 = y + e := ⟨_, rfl⟩
    have q7 : IntKind.u64.wrap (10 * z) = y := by rw [hy]; exact IntWalk.u64_in _ (by omega)
    have q8 : IntKind.u64.wrap (y + (e : Int)) = y2 := by rw [hy2]; exact IntWalk.u64_in _ (by omega)
    have q10 : IntKind.u64.wrap y2 = y2 := IntWalk.u64_in _ (by omega)
    obtain ⟨v, hv⟩ : ∃ v : Nat, v = 10 * u + e := ⟨_, rfl⟩
    rw [← hv] at hg
    have hvy : (v : Int) = y2 := by omega
    have HX0 := (next_any M 0 w8 (by omega) h7.g.g h7.g.gw).mono fun _ _ ⟨he, hb⟩ => And.intro he (h7.next hb)
    rw [hg] at HX0
    by_cases hbig : 2 ^ 63 ≤ v
    case' pos =>
      have hbz : (9223372036854775808 : Int) ≤ y2 := by omega
      unfold wantT at HX0
      rw [if_pos hbig] at HX0
      simp only [trV, tokV, strV, hvy] at HX0
      have HX := Lib.hid HX0
    case' neg =>
      have hbz : y2 < (9223372036854775808 : Int) := by omega
      unfold wantT at HX0
      rw [if_neg hbig] at HX0
      simp only [trV, tokV, strV, hvy] at HX0
      have HX := Lib.hid HX0
    case pos =>
      clear HX0 hg hzu hm hqq hov h7 hu0 hup hb hy hy2 hv hvy hbig
      generalize (e : Int) = ez at *
      go_wp2_with fail
      refine HX.out.mono ?_
      rintro o w9 ⟨rfl, h9⟩
      clear HX
      go_upto_region 18 with fail
      refine wp_named (fun wn => ST w w2.heap.size (rowT ⟨wk, 0, D.length, wN, wU, []⟩) wn ∧ wn.heap[w9.heap.size]? = some (.cells #[.int .i64 11, .int .i64 0, .int .i64 M.length, .int .i64 0, .int .u64 y2, .string ⟨#[]⟩] 25 (0, 0))) ⟨h9.next ((Below.refl _ _).alloc (Nat.le_refl _) _), heap_alloc_new _ _⟩ ?_
      clear h9
      generalize w9.heap.size = G9 at *
      rintro wx ⟨hx, hgx⟩
      have k0 : wx.cell? ⟨G9, 0, none⟩ = some (.int .i64 11) := cell_of_row _ _ 0 _ _ _ hgx
      have k2 : wx.cell? ⟨G9, 2, none⟩ = some (.int .i64 M.length) := cell_of_row _ _ 2 _ _ _ hgx
      have k3 : wx.cell? ⟨G9, 3, none⟩ = some (.int .i64 0) := cell_of_row _ _ 3 _ _ _ hgx
      have k4 : wx.cell? ⟨G9, 4, none⟩ = some (.int .u64 y2) := cell_of_row _ _ 4 _ _ _ hgx
      have HX := Lib.hid (hx.works)
      clear hx hgx
      go_wp2_with fail
      refine HX.out.mono ?_
      rintro o wz ⟨rfl, hE⟩
      have HE := Lib.hid hE.g.b
      clear hE HX
      go_wp2_with fail
      go_ret
      exact ⟨rfl, HE.out⟩
    case neg =>
      clear HX0 hg hzu hm hqq hov h7 hu0 hup hb hy hy2 hv hvy hbig
      generalize (e : Int) = ez at *
      go_wp2_with fail
      refine HX.out.mono ?_
      rintro o w9 ⟨rfl, h9⟩
      clear HX
      go_upto_region 18 with fail
      refine wp_named (fun wn => ST w w2.heap.size (rowT ⟨wk, 0, D.length, wN, wU, []⟩) wn ∧ wn.heap[w9.heap.size]? = some (.cells #[.int .i64 10, .int .i64 0, .int .i64 M.length, .int .i64 y2, .int .u64 0, .string ⟨#[]⟩] 25 (0, 0))) ⟨h9.next ((Below.refl _ _).alloc (Nat.le_refl _) _), heap_alloc_new _ _⟩ ?_
      clear h9
      generalize w9.heap.size = G9 at *
      rintro wx ⟨hx, hgx⟩
      have k0 : wx.cell? ⟨G9, 0, none⟩ = some (.int .i64 10) := cell_of_row _ _ 0 _ _ _ hgx
      have k2 : wx.cell? ⟨G9, 2, none⟩ = some (.int .i64 M.length) := cell_of_row _ _ 2 _ _ _ hgx
      have k3 : wx.cell? ⟨G9, 3, none⟩ = some (.int .i64 y2) := cell_of_row _ _ 3 _ _ _ hgx
      have k4 : wx.cell? ⟨G9, 4, none⟩ = some (.int .u64 0) := cell_of_row _ _ 4 _ _ _ hgx
      have HX := Lib.hid (hx.works)
      clear hx hgx
      go_wp2_with fail
      refine HX.out.mono ?_
      rintro o wz ⟨rfl, hE⟩
      have HE := Lib.hid hE.g.b
      clear hE HX
      go_wp2_with fail
      go_ret
      exact ⟨rfl, HE.out⟩
end Go.Proofs.YtgdhepoffnpgiaaDoor
