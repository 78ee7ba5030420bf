/- The walks of accordionlaw10.blank and LexCovers. -/
import Derived.Test.YtgdhepoffnpgiaaDoorMc
import Derived.Test.YtgdhepoffnpgiaaDoorMf
namespace Go.Proofs.YtgdhepoffnpgiaaDoor
set_option linter.unusedVariables false
set_option linter.unusedSimpArgs false
open Go.RowKit Go.Shelf
theorem trim_all {l cs : List UInt8} (h : ∀ c ∈ l, cs.contains c = true) : Lib.trimS l cs = [] := by
  have e : ∀ (l : List UInt8), (∀ c ∈ l, cs.contains c = true) → l.dropWhile (cs.contains ·) = [] := by
    intro l
    induction l with
    | nil => intro _; rfl
    | cons a l ih =>
      intro h
      rw [List.dropWhile_cons, h a (by simp)]
      exact ih fun c hc => h c (by simp [hc])
  unfold Lib.trimS Lib.trimRightS Lib.trimLeftS
  rw [e l.reverse (fun c hc => h c (by simpa using hc))]
  rfl
set_option maxHeartbeats 4000000 in
set_option maxRecDepth 100000 in
theorem blank_yes (l : List UInt8) (h : ∀ c ∈ l, blankB c = true) (hl : l.length ≤ 1073741824) {w0 w : World} (hW : WG w0 w) : Calls Tryd.prog 21 #[strV l] w fun e w' => e = .returned (.bool true) ∧ WG w0 w' := by
  have HT := Any.strings_Trim_laid Tryd.lays160 (by kernel_rfl) ⟨l.toArray⟩ ⟨#[32, 9, 10, 13]⟩ w (by simp [ByteArray.size]; omega) (by decide) bl_ascii
  dsimp only at HT
  rw [trim_all (l := l) (cs := [32, 9, 10, 13]) (fun c hc => by rw [blank_contains]; exact h c hc)] at HT
  have HT2 := Lib.hid HT
  have H0 := Lib.hid hW
  clear HT hW h
  unfold strV
  go_enter Tryd.func21, Tryd.ntmps21
  go_wp2_with fail
  refine HT2.out.mono ?_
  rintro e w1 ⟨rfl, hb⟩
  have H1 := Lib.hid (H0.out.next hb)
  clear hb
  go_wp2_with fail
  go_ret
  exact ⟨rfl, H1.out⟩
theorem flat_get : ∀ (l : List Tok) (j i : Nat), i < 6 → (l.flatMap tokC)[j * 6 + i]? = (l[j]?).bind fun t => (tokC t)[i]?
  | [], j, i, _ => by simp
  | t :: l, 0, i, h => by
    rw [List.flatMap_cons, Nat.zero_mul, Nat.zero_add, List.getElem?_append_left (by show i < 6; exact h)]
    rfl
  | t :: l, j + 1, i, h => by
    rw [List.flatMap_cons, List.getElem?_append_right (by show 6 ≤ _; omega)]
    have := flat_get l j i h
    rw [show (j + 1) * 6 + i - (tokC t).length = j * 6 + i by show _ - 6 = _; omega, this]
    rfl
set_option maxHeartbeats 8000000 in
set_option maxRecDepth 100000 in
theorem covers_any (s : List UInt8) (w : World) (hG : Glb w) (hB : Gb w.heap.size) : Calls Tryd.prog 7 #[strV s] w fun e w' => e = .returned (.bool true) ∧ Below w.heap.size w w' := by
  have HS1 := fun W => (short_any s 600 (by omega) W).mono fun _ _ h => And.intro h.1 h.2.symm
  have hx : (s.take 600).length ≤ 600 := List.length_take_le _ _
  have H0 := Lib.hid (WG.refl hG hB)
  clear hG hB
  generalize s.take 600 = x at *
  have hs : (⟨x.toArray⟩ : ByteArray).size = x.length := by simp [ByteArray.size]
  have HA := fun (W : World) (h : WG w W) => all_any x W h.g h.gw (by omega)
  have HC := Lib.hid (all_covers (s := x) (by omega))
  generalize allM x = r at *
  obtain ⟨toks, n, er⟩ := r
  have HS := Lib.hid HS1
  have HA2 := Lib.hid HA
  clear HS1 HA
  unfold strV at *
  by_cases her : er = 0
  · subst her
    obtain ⟨hn, hcov⟩ := HC.out.1 rfl
    dsimp only at hn hcov
    subst hn
    have HCov := Lib.hid hcov
    clear HC hcov
    go_enter Tryd.func7, Tryd.ntmps7
    go_wp2_with fail
    refine (works_any _ _ H0.out).mono ?_
    rintro e w1 ⟨rfl, hw1⟩
    have H1 := Lib.hid hw1
    clear hw1
    go_wp2_with fail
    refine (HS.out _).mono ?_
    rintro e w9 ⟨rfl, rfl⟩
    go_wp2_with fail
    refine (HA2.out _ H1.out).mono ?_
    rintro e w2 ⟨v, rfl, hT, hb⟩
    obtain ⟨A, c, rfl⟩ := owns_ptr hT
    have H2 := Lib.hid (And.intro (H1.out.next hb) hT)
    clear hT hb
    dsimp only
    go_wp2_with fail
    go_loopw [6, 7] (fun en i wr => ∃ (j e : Nat), i = .int .i64 j ∧ en = .int .i64 e ∧ j ≤ toks.length ∧ e ≤ x.length ∧ Hid (Covers x e (toks.drop j)) ∧ WG w wr ∧ TRow w1.heap.size wr (.slice A toks.length c) toks) (fun _ i _ => toks.length - (intOf i).toNat)
    case atStart => exact ⟨0, 0, rfl, rfl, Nat.zero_le _, Nat.zero_le _, HCov, H2.out.1, H2.out.2⟩
    case round =>
      clear H2
      obtain ⟨j, e, rfl, rfl, hj, he, hcov, hw, hT⟩ := hrel
      by_cases hlt : j < toks.length
      · have hltz : (j : Int) < (toks.length : Int) := by omega
        have hd := List.drop_eq_getElem_cons hlt
        have hc0 := hcov.out
        rw [hd] at hc0
        obtain ⟨b, k, g1, g2, g3, g4, g5, g6, g7, g8, g9, g10⟩ := hc0
        have hget : toks[j]? = some toks[j] := List.getElem?_eq_getElem hlt
        generalize toks[j] = tt at *
        obtain ⟨kd, fr, too, n, u, tx⟩ := tt
        dsimp only at g5 g6 g7 g8 g9
        subst g7 g8
        obtain ⟨g, cap, hAe, hcap⟩ : ∃ g cap, (Value.slice A toks.length c) = .slice (some ⟨g, 0, none⟩) toks.length cap ∧ (toks.length ≤ cap ∧ cap ≤ maxLen) := by
          rcases hT.2 with ⟨-, h⟩ | ⟨g, cap, cur, h, -, -, h1, h2, -⟩
          · omega
          · exact ⟨g, cap, h, h1, h2⟩
        obtain ⟨rfl, -, rfl⟩ := Value.slice.inj hAe
        have hat : ∀ i, i < 6 → wr.cell? ⟨g, j * 6 + i, none⟩ = (tokC ⟨kd, (b : Int), (b : Int) + k, n, u, tx⟩)[i]? := fun i hi => by
          rw [World.ownsRow.cellAt hT (j * 6 + i) (by omega), flat_get _ _ _ hi, hget]
          rfl
        have k0 : wr.cell? ⟨g, j * 6, none⟩ = some (.int .i64 kd) := hat 0 (by decide)
        have k1 : wr.cell? ⟨g, j * 6 + 1, none⟩ = some (.int .i64 b) := hat 1 (by decide)
        have k2 : wr.cell? ⟨g, j * 6 + 2, none⟩ = some (.int .i64 ((b : Int) + k)) := hat 2 (by decide)
        have k3 : wr.cell? ⟨g, j * 6 + 3, none⟩ = some (.int .i64 n) := hat 3 (by decide)
        have k4 : wr.cell? ⟨g, j * 6 + 4, none⟩ = some (.int .u64 u) := hat 4 (by decide)
        have k5 : wr.cell? ⟨g, j * 6 + 5, none⟩ = some (.string ⟨tx.toArray⟩) := hat 5 (by decide)
        have HCN := Lib.hid g10
        have HW := Lib.hid (And.intro hw hT)
        have HG9 := Lib.hid g9
        have HG4 := Lib.hid g4
        clear hat hget hd hcov hT hw hAe g10 g9 g4
        go_upto_region 12 with fail
        have hzr : wr.heap.size < (wr.alloc (.cells #[.int .i64 kd, .int .i64 b, .int .i64 ((b : Int) + k), .int .i64 n, .int .u64 u, .string ⟨tx.toArray⟩] 25 (0, 0))).heap.size := by simp
        refine wp_named (fun wn => WG w wn ∧ TRow w1.heap.size wn (.slice (some ⟨g, 0, none⟩) toks.length c) toks ∧ wr.heap.size < wn.heap.size ∧ wn.heap[wr.heap.size]? = some (.cells #[.int .i64 kd, .int .i64 b, .int .i64 ((b : Int) + k), .int .i64 n, .int .u64 u, .string ⟨tx.toArray⟩] 25 (0, 0))) ⟨HW.out.1.next ((Below.refl _ _).alloc (Nat.le_refl _) _), HW.out.2.keep ((Below.refl _ _).alloc (Nat.le_refl _) _), hzr, heap_alloc_new _ _⟩ ?_
        clear k0 k1 k2 k3 k4 k5 HW hzr
        generalize wr.heap.size = G at *
        rintro wn ⟨hw, hT, hz, hg⟩
        have v0 : wn.cell? ⟨G, 0, none⟩ = some (.int .i64 kd) := cell_of_row _ _ _ _ _ _ hg
        have v1 : wn.cell? ⟨G, 1, none⟩ = some (.int .i64 b) := cell_of_row _ _ _ _ _ _ hg
        have v2 : wn.cell? ⟨G, 2, none⟩ = some (.int .i64 ((b : Int) + k)) := cell_of_row _ _ _ _ _ _ hg
        have z1 : ¬ (b : Int) < (e : Int) := by omega
        have z2 : ¬ (b : Int) + k ≤ (b : Int) := by omega
        have z3 : ¬ (x.length : Int) < (b : Int) + k := by omega
        have z4 : ¬ kd < 1 := by omega
        have z5 : ¬ 12 < kd := by omega
        have hsl1 := fun W => sub_run x e b g1 (by omega) W
        have HB := Lib.hid (blank_yes ((x.drop e).take (b - e)) HG4.out (by rw [List.length_take, List.length_drop]; omega) (WG.refl hw.g hw.gw))
        have HN := Lib.hid (And.intro hw (And.intro hT hg))
        unfold strV at HB
        clear hw hT hg
        go_wp2_with fail
        refine HB.out.mono ?_
        rintro o w3 ⟨rfl, hw3⟩
        have hg3 := (hw3.b.block G hz).trans HN.out.2.2
        have hz3 := Nat.lt_of_lt_of_le hz hw3.b.size
        have H3 := Lib.hid (And.intro (HN.out.1.next hw3.b) (And.intro (HN.out.2.1.keep hw3.b) (And.intro hg3 hw3.g)))
        have y0 : w3.cell? ⟨G, 0, none⟩ = some (.int .i64 kd) := cell_of_row _ _ _ _ _ _ hg3
        have y1 : w3.cell? ⟨G, 1, none⟩ = some (.int .i64 b) := cell_of_row _ _ _ _ _ _ hg3
        have y2 : w3.cell? ⟨G, 2, none⟩ = some (.int .i64 ((b : Int) + k)) := cell_of_row _ _ _ _ _ _ hg3
        have hsl2 := fun W => sub_run x b (b + k) (by omega) g3 W
        rw [Nat.add_sub_cancel_left, Int.natCast_add] at hsl2
        have hxl : ((x.drop b).take k).length ≤ 600 := by rw [List.length_take, List.length_drop]; omega
        have hnx := next_parts (32 :: 10 :: (x.drop b).take k) 0 w3 w3 (by simp only [List.length_cons]; omega) (WG.refl hw3.g hw3.gw)
        rw [HG9.out] at hnx
        have hadd := str_app [32, 10] ((x.drop b).take k)
        generalize (x.drop b).take k = xs at *
        obtain ⟨xs2, hxs2⟩ : ∃ z, z = 32 :: 10 :: xs := ⟨_, rfl⟩
        rw [← hxs2] at hnx
        rw [show [32, 10] ++ xs = xs2 from hxs2.symm] at hadd
        have haddl : 2 + xs.length ≤ 9223372036854775807 := by omega
        simp only [trV, tokV, strV] at hnx
        have HNX := Lib.hid hnx
        clear hnx hxs2 HB HN hg3 hw3 v0 v1 v2 HG4 HG9
        go_wp2_with fail
        refine HNX.out.mono ?_
        rintro o w4 ⟨rfl, hw4⟩
        have hg4 := (hw4.b.block G hz3).trans H3.out.2.2.1
        have hz4 := Nat.lt_of_lt_of_le hz3 hw4.b.size
        have H4 := Lib.hid (And.intro (H3.out.1.next hw4.b) (And.intro (H3.out.2.1.keep hw4.b) hg4))
        clear y0 y1 y2 hw4 hg4 H3 HNX
        go_upto_region 15 with fail
        refine wp_named (fun wz => WG w wz ∧ TRow w1.heap.size wz (.slice (some ⟨g, 0, none⟩) toks.length c) toks ∧ G < wz.heap.size ∧ w4.heap.size < wz.heap.size ∧ wz.heap[G]? = some (.cells #[.int .i64 kd, .int .i64 b, .int .i64 ((b : Int) + k), .int .i64 n, .int .u64 u, .string ⟨tx.toArray⟩] 25 (0, 0)) ∧ wz.heap[w4.heap.size]? = some (.cells #[.int .i64 kd, .int .i64 2, .int .i64 (2 + (k : Int)), .int .i64 n, .int .u64 u, .string ⟨tx.toArray⟩] 25 (0, 0))) ⟨H4.out.1.next ((Below.refl _ _).alloc (Nat.le_refl _) _), H4.out.2.1.keep ((Below.refl _ _).alloc (Nat.le_refl _) _), by simp; omega, by simp, (Lib.alloc_old _ _ _ hz4).trans H4.out.2.2, heap_alloc_new _ _⟩ ?_
        clear H4
        generalize w4.heap.size = G9 at *
        rintro wz ⟨hw, hT, q1, q2, hg, hg9⟩
        have v0 : wz.cell? ⟨G, 0, none⟩ = some (.int .i64 kd) := cell_of_row _ _ _ _ _ _ hg
        have v1 : wz.cell? ⟨G, 1, none⟩ = some (.int .i64 b) := cell_of_row _ _ _ _ _ _ hg
        have v2 : wz.cell? ⟨G, 2, none⟩ = some (.int .i64 ((b : Int) + k)) := cell_of_row _ _ _ _ _ _ hg
        have v3 : wz.cell? ⟨G, 3, none⟩ = some (.int .i64 n) := cell_of_row _ _ _ _ _ _ hg
        have v4 : wz.cell? ⟨G, 4, none⟩ = some (.int .u64 u) := cell_of_row _ _ _ _ _ _ hg
        have v5 : wz.cell? ⟨G, 5, none⟩ = some (.string ⟨tx.toArray⟩) := cell_of_row _ _ _ _ _ _ hg
        have t0 : wz.cell? ⟨G9, 0, none⟩ = some (.int .i64 kd) := cell_of_row _ _ _ _ _ _ hg9
        have t1 : wz.cell? ⟨G9, 1, none⟩ = some (.int .i64 2) := cell_of_row _ _ _ _ _ _ hg9
        have t2 : wz.cell? ⟨G9, 2, none⟩ = some (.int .i64 (2 + (k : Int))) := cell_of_row _ _ _ _ _ _ hg9
        have t3 : wz.cell? ⟨G9, 3, none⟩ = some (.int .i64 n) := cell_of_row _ _ _ _ _ _ hg9
        have t4 : wz.cell? ⟨G9, 4, none⟩ = some (.int .u64 u) := cell_of_row _ _ _ _ _ _ hg9
        have t5 : wz.cell? ⟨G9, 5, none⟩ = some (.string ⟨tx.toArray⟩) := cell_of_row _ _ _ _ _ _ hg9
        have w1' : IntKind.i64.wrap (2 + ((b : Int) + k)) = 2 + ((b : Int) + k) := IntWalk.i64_in _ (by omega)
        have w2' : IntKind.i64.wrap (2 + ((b : Int) + k) - b) = 2 + (k : Int) := by rw [IntWalk.i64_in _ (by omega)]; omega
        have w3' : IntKind.i64.wrap ((j : Int) + 1) = j + 1 := IntWalk.i64_in _ (by have h := hcap; unfold maxLen at h; omega)
        have HE := Lib.hid (And.intro hw hT)
        clear hw hT hg hg9
        go_wp2_with fail
        go_roundw
        case rel => exact ⟨j + 1, b + k, by go_num, by go_num, by omega, by omega, HCN, HE.out.1, HE.out.2⟩
        case measure => simp only [intOf]; omega
      · have hltz : ¬ (j : Int) < (toks.length : Int) := by omega
        have hnil : toks.drop j = [] := List.drop_of_length_le (by omega)
        have hc0 := hcov.out
        rw [hnil] at hc0
        have hsl1 := fun W => sub_from x e he W
        have HB := Lib.hid (blank_yes (x.drop e) hc0.2 (by rw [List.length_drop]; omega) hw)
        unfold strV at HB
        clear hcov hc0 hw hT hnil
        go_wp2_with fail
        refine HB.out.mono ?_
        rintro o w3 ⟨rfl, hw3⟩
        have H3 := Lib.hid hw3.b
        clear hw3
        go_wp2_with fail
        go_ret
        exact ⟨rfl, H3.out⟩
  · obtain ⟨h1, h2, h3⟩ := HC.out.2 her
    dsimp only at h1 h2 h3
    subst h1
    have her' : (er != 0) = true := by simpa using her
    clear HC her
    go_enter Tryd.func7, Tryd.ntmps7
    go_wp2_with fail
    refine (works_any _ _ H0.out).mono ?_
    rintro e w1 ⟨rfl, hw1⟩
    have H1 := Lib.hid hw1
    clear hw1
    go_wp2_with fail
    refine (HS.out _).mono ?_
    rintro e w9 ⟨rfl, rfl⟩
    go_wp2_with fail
    refine (HA2.out _ H1.out).mono ?_
    rintro e w2 ⟨v, rfl, hT, hb⟩
    obtain ⟨A, c, rfl⟩ := owns_ptr hT
    have H2 := Lib.hid (H1.out.next hb)
    clear hT hb
    dsimp only [List.length_nil]
    go_wp2_with fail
    go_ret
    exact ⟨rfl, H2.out.b⟩
end Go.Proofs.YtgdhepoffnpgiaaDoor
