/- The walk of tree.such: the rules for a node's kind. -/
import Derived.Test.YtccmhhmdenfecaaGreatDoorEa
import Derived.Test.YtccmhhmdenfecaaGreatDoorQa
import Derived.BigQuiet
import Derived.Deep.RegionHeld3
namespace Go.Proofs.YtccmhhmdenfecaaGreatDoor
set_option linter.unusedVariables false
set_option linter.unusedSimpArgs false
section
open Go.RowKit
theorem arr_size' (l : List UInt8) : (⟨l.toArray⟩ : ByteArray).size = l.length := by simp [ByteArray.size]
theorem cell_al {W : World} {b o : Nat} {v : Value} (hb : b < W.heap.size) (h : W.cell? ⟨b, o, none⟩ = some v) (ob : Obj) : (W.alloc ob).cell? ⟨b, o, none⟩ = some v := (((Below.refl W.heap.size W).alloc (Nat.le_refl _) ob).cell (p := ⟨b, o, none⟩) hb).trans h
/-- A child that its parent's kind does not allow. -/
def othB (p kd : Int) : Bool := decide (p ≠ 0 ∧ kd ≠ p)
set_option maxHeartbeats 1000000 in
theorem such1_any (kd nn u : Int) (s : ByteArray) (A1 : Option Addr) (m1 c1 : Nat) (A2 : Option Addr) (m2 c2 : Nat) (p : Int) (P : Nat) (w : World) (h : w.cell? ⟨P, 0, none⟩ = some (.int .i64 p)) (hP : P < w.heap.size) :
    Calls Tryz.prog 76 #[.agg #[.int .i64 kd, .int .i64 nn, .int .u64 u, .string s, .slice A1 m1 c1, .slice A2 m2 c2], .pointer (some ⟨P, 0, none⟩)] w fun e w' => e = .returned (.bool (othB p kd)) ∧ Below w.heap.size w w' := by
  by_cases h0 : p = 0
  · subst h0
    have e : othB 0 kd = false := by simp [othB]
    rw [e]
    go_enter Tryz.func76, Tryz.ntmps76
    go_wp2
    go_ret
    exact ⟨rfl, by exact zw⟩
  · by_cases h1 : kd = p
    · subst h1
      have e : othB kd kd = false := by simp [othB]
      rw [e]
      go_enter Tryz.func76, Tryz.ntmps76
      go_wp2
      go_ret
      exact ⟨rfl, by exact zw⟩
    · have e : othB p kd = true := by simp [othB, h0, h1]
      rw [e]
      go_enter Tryz.func76, Tryz.ntmps76
      go_wp2
      go_ret
      exact ⟨by show Ending.returned (.bool (p != 0 && kd != p)) = _; simp [h0, h1], by exact zw⟩
set_option maxRecDepth 100000 in
set_option maxHeartbeats 4000000 in
theorem indexfunc_any (l : List DT) (xs : List Value) (A : Option Addr) (c : Nat) (p : Int) (P : Nat) (w0 w : World) (hx : RReps w0 l xs) (hr : Rd w0 (.slice A l.length c) 6 l.length xs) (hb0 : Below w0.heap.size w0 w) (h : w.cell? ⟨P, 0, none⟩ = some (.int .i64 p)) (hP : P < w.heap.size) :
    Calls Tryz.prog 107 #[.slice A l.length c, .func (.func 76) #[] #[.pointer (some ⟨P, 0, none⟩)]] w fun e w' => (∃ i : Int, e = .returned (.int .i64 i) ∧ decide (0 ≤ i) = l.any fun t => othB p (kdOf t)) ∧ Below w.heap.size w w' := by
  have HX := Lib.hid hx
  have HR := Lib.hid hr
  have HB0 := Lib.hid hb0
  have HP := Lib.hid h
  have hbd := hr.bound
  obtain ⟨n, hn⟩ : ∃ n, n = l.length := ⟨_, rfl⟩
  rw [← hn] at hbd ⊢
  have HN := Lib.hid hn
  clear hx hr hb0 h hn
  go_enter Tryz.func107, Tryz.ntmps107
  go_wp2_with fail
  go_loopw [8] (fun i wr => ∃ k : Nat, k ≤ n ∧ i = .int .i64 k ∧ Hid ((l.take k).any (fun t => othB p (kdOf t)) = false) ∧ Below w.heap.size w wr) (fun i _ => n - (intOf i).toNat)
  case atStart => exact ⟨0, by omega, rfl, Lib.hid (by simp), Below.refl _ _⟩
  case round =>
    rename_i wr
    obtain ⟨k, hk, rfl, hF, hb⟩ := hrel
    have hz := hb.size
    by_cases h1 : k < n
    · have h1' : (k : Int) < (n : Int) := by omega
      have hkl : k < l.length := by rw [← HN.out]; exact h1
      have hRd : Rd w0 (.slice A n c) 6 l.length xs := by
        have := HR.out
        have e := HN.out
        rw [← e] at this ⊢
        exact this
      obtain ⟨b, o, kd', nn', uu', ss', A1', m1', c1', A2', m2', c2', rfl, hblt, hblr, hrep, p0, p1, p2, p3, p4, p5⟩ := HX.out.kid hRd (HB0.out.trans (hb.mono HB0.out.size)) k hkl
      have hPr := (hb.cell (p := ⟨P, 0, none⟩) hP).trans HP.out
      have HC := Lib.hid (such1_any kd' nn' uu' ss' A1' m1' c1' A2' m2' c2' p P wr hPr (by omega))
      have hkk : kdOf l[k] = kd' := by
        generalize l[k] = T at hrep
        obtain ⟨a, b, c, d, e, f⟩ := T
        obtain ⟨_, _, _, _, _, hcs, -⟩ := hrep.form
        simp only [List.cons.injEq] at hcs
        have := hcs.1
        injection this with _ this
        exact this.symm
      have HSN := Lib.hid (show (l.take (k + 1)).any (fun t => othB p (kdOf t)) = othB p kd' by
        rw [List.take_succ_eq_append_getElem hkl, List.any_append, hF.out, List.any_cons, List.any_nil, hkk]; simp)
      have HSP := Lib.hid (List.take_append_drop (k + 1) l)
      have HB := Lib.hid hb
      clear hrep hRd hPr hkk hb hkl
      cases ho : othB p kd' with
      | true =>
        rw [ho] at HC HSN
        clear ho
        go_wp2_with (go_at_call 76; refine HC.out.mono ?_; clear HC; rintro e w1 ⟨rfl, hb1⟩; have HB1 := Lib.hid hb1; clear hb1)
        go_ret
        refine ⟨⟨k, rfl, ?_⟩, HB.out.trans (HB1.out.mono hz)⟩
        rw [← HSP.out, List.any_append, HSN.out]
        simp
      | false =>
        rw [ho] at HC HSN
        clear ho
        go_wp2_with (go_at_call 76; refine HC.out.mono ?_; clear HC; rintro e w1 ⟨rfl, hb1⟩; have HB1 := Lib.hid hb1; clear hb1)
        go_roundw
        case rel => exact ⟨k + 1, by omega, by go_num, HSN, HB.out.trans (HB1.out.mono hz)⟩
        case measure => simp only [intOf]; omega
    · have h1' : ¬ (k : Int) < (n : Int) := by omega
      have hall : l.any (fun t => othB p (kdOf t)) = false := by
        have := hF.out
        have hk2 : k = l.length := by rw [← HN.out]; omega
        rwa [hk2, List.take_length] at this
      have HA := Lib.hid hall
      have HB := Lib.hid hb
      clear hall hb hF
      go_wp2_with fail
      go_ret
      exact ⟨⟨-1, rfl, by rw [HA.out]; rfl⟩, HB.out⟩
set_option maxRecDepth 100000 in
set_option maxHeartbeats 2000000 in
theorem containsfunc_any (l : List DT) (xs : List Value) (A : Option Addr) (c : Nat) (p : Int) (P : Nat) (w0 w : World) (hx : RReps w0 l xs) (hr : Rd w0 (.slice A l.length c) 6 l.length xs) (hb0 : Below w0.heap.size w0 w) (h : w.cell? ⟨P, 0, none⟩ = some (.int .i64 p)) (hP : P < w.heap.size) :
    Calls Tryz.prog 77 #[.slice A l.length c, .func (.func 76) #[] #[.pointer (some ⟨P, 0, none⟩)]] w fun e w' => e = .returned (.bool (l.any fun t => othB p (kdOf t))) ∧ Below w.heap.size w w' := by
  have HC := Lib.hid (indexfunc_any l xs A c p P w0 w hx hr hb0 h hP)
  clear hx hr hb0 h hP
  generalize (l.any fun t => othB p (kdOf t)) = r at *
  generalize l.length = n at *
  go_enter Tryz.func77, Tryz.ntmps77
  go_wp2_with (go_at_call 107; refine HC.out.mono ?_; clear HC; rintro e w1 ⟨⟨i, rfl, hi⟩, hb1⟩; have HB1 := Lib.hid hb1; clear hb1; have HI := Lib.hid hi; clear hi)
  go_ret
  exact ⟨by rw [← HI.out]; rfl, HB1.out⟩
def usesD (kd : Int) : Int := if kd = 2 ∨ kd = 3 ∨ kd = 8 then 1 else if kd = 4 ∨ kd = 9 then 2 else if kd = 5 ∨ kd = 6 ∨ kd = 7 then 4 else if kd = 17 then 8 else 0
theorem kd_cases17 {kd : Int} (h1 : 1 ≤ kd) (h2 : kd ≤ 17) : kd = 1 ∨ kd = 2 ∨ kd = 3 ∨ kd = 4 ∨ kd = 5 ∨ kd = 6 ∨ kd = 7 ∨ kd = 8 ∨ kd = 9 ∨ kd = 10 ∨ kd = 11 ∨ kd = 12 ∨ kd = 13 ∨ kd = 14 ∨ kd = 15 ∨ kd = 16 ∨ kd = 17 := by omega
theorem uses_idx (kd : Int) (h1 : 1 ≤ kd) (h2 : kd ≤ 17) : ∀ w, (Instr.index 155 (Value.agg #[Value.int .i64 0, Value.int .i64 0, Value.int .i64 1, Value.int .i64 1, Value.int .i64 2, Value.int .i64 4, Value.int .i64 4, Value.int .i64 4, Value.int .i64 1, Value.int .i64 2, Value.int .i64 0, Value.int .i64 0, Value.int .i64 0, Value.int .i64 0, Value.int .i64 0, Value.int .i64 0, Value.int .i64 0, Value.int .i64 8]) (.int .i64 kd)).run Tryz.prog w = .ok (.int .i64 (usesD kd)) w := by
  rcases kd_cases17 h1 h2 with rfl | rfl | rfl | rfl | rfl | rfl | rfl | rfl | rfl | rfl | rfl | rfl | rfl | rfl | rfl | rfl | rfl
  all_goals
    intro w
    kernel_rfl
set_option maxRecDepth 100000 in
set_option maxHeartbeats 4000000 in
theorem uses_any (kd : Int) (h1 : 1 ≤ kd) (h2 : kd ≤ 17) (w : World) : Calls Tryz.prog 74 #[.int .i64 kd] w fun e w' => e = .returned (.int .i64 (usesD kd)) ∧ w = w' := by
  have hI := uses_idx kd h1 h2
  go_enter Tryz.func74, Tryz.ntmps74
  go_wp2
  go_ret
  exact ⟨rfl, rfl⟩
theorem part_idx (kd : Int) (h1 : 1 ≤ kd) (h2 : kd ≤ 17) : ∀ w, (Instr.index 155 (Value.agg #[Value.int .i64 0, Value.int .i64 (-1), Value.int .i64 (-1), Value.int .i64 (-1), Value.int .i64 (-1), Value.int .i64 (-1), Value.int .i64 (-1), Value.int .i64 (-1), Value.int .i64 (-1), Value.int .i64 (-1), Value.int .i64 0, Value.int .i64 3, Value.int .i64 4, Value.int .i64 5, Value.int .i64 2, Value.int .i64 3, Value.int .i64 4, Value.int .i64 0]) (.int .i64 kd)).run Tryz.prog w = .ok (.int .i64 (partD kd)) w := by
  rcases kd_cases17 h1 h2 with rfl | rfl | rfl | rfl | rfl | rfl | rfl | rfl | rfl | rfl | rfl | rfl | rfl | rfl | rfl | rfl | rfl
  all_goals
    intro w
    kernel_rfl
set_option maxRecDepth 100000 in
set_option maxHeartbeats 4000000 in
theorem part_any (kd : Int) (h1 : 1 ≤ kd) (h2 : kd ≤ 17) (w : World) : Calls Tryz.prog 75 #[.int .i64 kd] w fun e w' => e = .returned (.int .i64 (partD kd)) ∧ w = w' := by
  have hI := part_idx kd h1 h2
  go_enter Tryz.func75, Tryz.ntmps75
  go_wp2
  go_ret
  exact ⟨rfl, rfl⟩
theorem size0 {S : ByteArray} (h : S.size = 0) : S = ⟨#[]⟩ := by
  obtain ⟨⟨l⟩⟩ := S
  have : l = [] := List.eq_nil_of_length_eq_zero (by simpa [ByteArray.size] using h)
  rw [this]
theorem sizeN {S : ByteArray} (h : ¬ S.size = 0) : S.toList.isEmpty = false := by
  obtain ⟨⟨l⟩⟩ := S
  simp [ByteArray.size] at h
  simp [h]
/-- The bits of what a kind uses. -/
theorem uses_bits (kd : Int) (h1 : 1 ≤ kd) (h2 : kd ≤ 17) :
    (bits .and .i64 (usesD kd) 1 = 0 ↔ ¬ (kd = 2 ∨ kd = 3 ∨ kd = 8)) ∧ (bits .and .i64 (usesD kd) 2 = 0 ↔ ¬ (kd = 4 ∨ kd = 9)) ∧ (bits .and .i64 (usesD kd) 4 = 0 ↔ ¬ (kd = 5 ∨ kd = 6 ∨ kd = 7)) ∧ (bits .and .i64 (usesD kd) 8 = 0 ↔ ¬ kd = 17) := by
  rcases kd_cases17 h1 h2 with rfl | rfl | rfl | rfl | rfl | rfl | rfl | rfl | rfl | rfl | rfl | rfl | rfl | rfl | rfl | rfl | rfl <;> decide
set_option maxRecDepth 100000 in
theorem such_lo (kd nn u : Int) (S : ByteArray) (A1 A2 : Option Addr) (q c1 m c2 : Nat) (w : World) (h1 : kd < 1) (d1 : kd ≤ 0) :
    Calls Tryz.prog 44 #[.agg #[.int .i64 kd, .int .i64 nn, .int .u64 u, .string S, .slice A1 q c1, .slice A2 m c2]] w fun e w' => e = .returned (.bool false) ∧ Below w.heap.size w w' := by
  go_enter Tryz.func44, Tryz.ntmps44
  go_wp2_with fail
  go_ret
  exact ⟨rfl, by exact zw⟩
set_option maxRecDepth 100000 in
theorem such_hi (kd nn u : Int) (S : ByteArray) (A1 A2 : Option Addr) (q c1 m c2 : Nat) (w : World) (h1 : 17 < kd) (d1 : 1 ≤ kd) :
    Calls Tryz.prog 44 #[.agg #[.int .i64 kd, .int .i64 nn, .int .u64 u, .string S, .slice A1 q c1, .slice A2 m c2]] w fun e w' => e = .returned (.bool false) ∧ Below w.heap.size w w' := by
  go_enter Tryz.func44, Tryz.ntmps44
  go_wp2_with fail
  go_ret
  exact ⟨rfl, by exact zw⟩
set_option maxRecDepth 100000 in
set_option maxHeartbeats 16000000 in
theorem such_any (kd nn u : Int) (s : List UInt8) (ks : List (List UInt8)) (l : List DT) (w : World) (x0 x1 x2 x3 x4 x5 : Value) (hx : RRep w (.mk kd nn u s ks l) [x0, x1, x2, x3, x4, x5]) :
    Calls Tryz.prog 44 #[.agg #[x0, x1, x2, x3, x4, x5]] w fun e w' => e = .returned (.bool (suchD (.mk kd nn u s ks l))) ∧ Below w.heap.size w w' := by
  obtain ⟨A1, c1, A2, c2, xs, hcs, hk, hl, hkids⟩ := hx.form
  simp only [List.cons.injEq, and_true] at hcs
  obtain ⟨rfl, rfl, rfl, rfl, rfl, rfl⟩ := hcs
  have hbk := hk.bound
  have hbl := hl.bound
  have HCF := Lib.hid (fun (W : World) (hW : Below w.heap.size w W) p P h hP => containsfunc_any l xs A2 c2 p P w W hkids hl hW h hP)
  clear hx hk hl hkids
  obtain ⟨r, hr⟩ : ∃ r, r = suchD (.mk kd nn u s ks l) := ⟨_, rfl⟩
  rw [← hr]
  obtain ⟨an, han⟩ : ∃ an, an = l.any fun t => othB (partD kd) (kdOf t) := ⟨_, rfl⟩
  obtain ⟨q, hq⟩ : ∃ q, q = ks.length := ⟨_, rfl⟩
  obtain ⟨m, hm⟩ : ∃ m, m = l.length := ⟨_, rfl⟩
  obtain ⟨S, hS⟩ : ∃ S : ByteArray, S = ⟨s.toArray⟩ := ⟨_, rfl⟩
  have hSe : (S.size = 0) ↔ s = [] := by rw [hS, arr_size']; exact List.length_eq_zero_iff
  have hqe : q = 0 ↔ ks = [] := by rw [hq]; exact List.length_eq_zero_iff
  unfold strV
  rw [← hq, ← hm, ← hS]
  rw [← hq] at hbk
  rw [← hm] at hbl HCF
  by_cases hkd : 1 ≤ kd ∧ kd ≤ 17
  · obtain ⟨h1, h2⟩ := hkd
    obtain ⟨u1, u2, u3, u4⟩ := uses_bits kd h1 h2
    have hr2 : r = (decide (((kd = 2 ∨ kd = 3 ∨ kd = 8) ∨ nn = 0) ∧ ((kd = 4 ∨ kd = 9) ∨ u = 0) ∧ ((kd = 5 ∨ kd = 6 ∨ kd = 7) ∨ S.size = 0) ∧ (kd = 17 ∨ q = 0) ∧ (kd = 2 → nn = 0 ∨ nn = 1) ∧ (kd = 17 → q = m) ∧ ((kd = 15 ∨ kd = 16) → 2 ≤ m ∧ m ≤ 4)) && !an) := by
      rw [hr, han, hq, hm]
      show (decide _ && _) = _
      have e : (l.all fun x => decide (partD kd = 0 ∨ kdOf x = partD kd)) = !(l.any fun t => othB (partD kd) (kdOf t)) := by
        rw [List.all_eq_not_any_not]
        congr 1
        congr 1
        funext t
        unfold othB
        rw [← decide_not]
        simp
      rw [e]
      congr 1
      simp only [hSe, List.length_eq_zero_iff, h1, h2, true_and]
    have HU := Lib.hid (uses_any kd h1 h2)
    have HP := Lib.hid (part_any kd h1 h2)
    obtain ⟨U, hU⟩ : ∃ U, U = usesD kd := ⟨_, rfl⟩
    rw [← hU] at u1 u2 u3 u4 HU
    obtain ⟨v1, hv1⟩ : ∃ v, v = bits .and .i64 U 1 := ⟨_, rfl⟩
    obtain ⟨v2, hv2⟩ : ∃ v, v = bits .and .i64 U 2 := ⟨_, rfl⟩
    obtain ⟨v3, hv3⟩ : ∃ v, v = bits .and .i64 U 4 := ⟨_, rfl⟩
    obtain ⟨v4, hv4⟩ : ∃ v, v = bits .and .i64 U 8 := ⟨_, rfl⟩
    rw [← hv1] at u1
    rw [← hv2] at u2
    rw [← hv3] at u3
    rw [← hv4] at u4
    have HR2 := Lib.hid (And.intro hr2 (And.intro u1 (And.intro u2 (And.intro u3 u4))))
    have HV1 := Lib.hid hv1.symm
    have HV2 := Lib.hid hv2.symm
    have HV3 := Lib.hid hv3.symm
    have HV4 := Lib.hid hv4.symm
    have HAN := Lib.hid han.symm
    obtain ⟨pp, hpp⟩ : ∃ p, p = partD kd := ⟨_, rfl⟩
    rw [← hpp] at HP HAN
    clear hr hr2 u1 u2 u3 u4 hU hv1 hv2 hv3 hv4 han hq hm hS hSe hqe hpp
    go_enter Tryz.func44, Tryz.ntmps44
    go_upto_region 3 with fail
    refine wp_named (fun wn => Below w.heap.size w wn ∧ wn.heap[w.heap.size]? = some (.cells #[.int .i64 kd, .int .i64 nn, .int .u64 u, .string S, .slice A1 q c1, .slice A2 m c2] 27 (0, 0))) ⟨by exact zw, heap_alloc_new _ _⟩ ?_
    rintro wn ⟨hb, hX⟩
    have gX : w.heap.size < wn.heap.size := (Array.getElem?_eq_some_iff.1 hX).1
    obtain ⟨z0, z1, z2, z3, z4, z5⟩ := cells6 hX
    have HX := Lib.hid hX
    have HB := Lib.hid hb
    clear hX hb z1 z2 z3 z4 z5
    go_cut [3, 4] (fun s3 s4 wx => s3 = .int .i64 U ∧ s4 = .pointer (some ⟨wn.heap.size, 0, none⟩) ∧ Below wn.heap.size wn wx ∧ wx.heap[wn.heap.size]? = some (.cells #[.int .i64 pp] 3 (0, 0)))
    case first =>
      go_region_held3 (fun w' => w'.cell? ⟨w.heap.size, 0, none⟩ = some (.int .i64 kd)) (first | (with_reducible exact z0) | (with_reducible exact cell_al gX z0 _) | go_keep) ((first | (go_at_call 74; refine (HU.out _).mono ?_; rintro e w1 ⟨rfl, rfl⟩) | (go_at_call 75; refine (HP.out _).mono ?_; rintro e w1 ⟨rfl, rfl⟩)))
      all_goals (go_wp2_with fail; go_meet)
      all_goals exact ⟨rfl, rfl, ((Below.refl wn.heap.size wn).alloc (Nat.le_refl _) _).drew, heap_alloc_new wn _⟩
    case rest =>
    obtain ⟨rfl, rfl, hbc, hpc⟩ := hcut
    go_upto_region 5 with fail
    refine wp_named (fun W => Below w.heap.size w W ∧ W.heap[w.heap.size]? = some (.cells #[.int .i64 kd, .int .i64 nn, .int .u64 u, .string S, .slice A1 q c1, .slice A2 m c2] 27 (0, 0)) ∧ W.heap[wn.heap.size]? = some (.cells #[.int .i64 pp] 3 (0, 0))) ⟨HB.out.trans (hbc.mono (Nat.le_of_lt gX)), (hbc.block _ gX).trans HX.out, hpc⟩ ?_
    clear hbc hpc HB HX z0
    rintro W ⟨hb, hX, hP⟩
    have gP : wn.heap.size < W.heap.size := (Array.getElem?_eq_some_iff.1 hP).1
    have gX : w.heap.size < W.heap.size := (Array.getElem?_eq_some_iff.1 hX).1
    obtain ⟨z0, z1, z2, z3, z4, z5⟩ := cells6 hX
    have zp : W.cell? ⟨wn.heap.size, 0, none⟩ = some (.int .i64 pp) := cell_of_row _ _ _ _ _ _ hP
    have HB := Lib.hid hb
    clear hX hP hb
    obtain ⟨c105, hc⟩ : ∃ c : Bool, c = decide (v1 = 0 ∧ nn ≠ 0) := ⟨_, rfl⟩
    have Hc105 := Lib.hid hc
    go_cut [21] (fun s wx => s = .bool c105 ∧ W = wx)
    case first =>
      have hv := HV1.out
      by_cases e1 : v1 = 0
      · rw [e1] at hv
        by_cases e2 : nn = 0
        · have hf : c105 = false := by rw [hc]; simp [e2]
          subst hf
          clear hc Hc105
          obtain rfl : nn = 0 := e2
          go_wp2_with fail
          go_meet
          exact ⟨rfl, rfl⟩
        · have e3 : (nn != 0) = true := by simp [e2]
          have hf : c105 = true := by rw [hc]; simp [e1, e2]
          subst hf
          clear hc
          go_wp2_with fail
          go_meet
          exact ⟨rfl, rfl⟩
      · have e3 : (v1 == 0) = false := by simp [e1]
        have hf : c105 = false := by rw [hc]; simp [e1]
        subst hf
        clear hc
        go_wp2_with fail
        go_meet
        exact ⟨rfl, rfl⟩
    case rest =>
    obtain ⟨rfl, rfl⟩ := hcut
    clear hc
    cases hcv : c105 with
    | true =>
      subst hcv
      have hrf : r = false := by
        have ha := of_decide_eq_true Hc105.out.symm
        rw [HR2.out.1, Bool.and_eq_false_iff]
        left
        exact decide_eq_false (fun h => h.1.elim (HR2.out.2.1.1 ha.1) ha.2)
      have HRF := Lib.hid hrf
      clear hrf
      go_wp2_with fail
      go_ret
      exact ⟨by rw [HRF.out]; rfl, HB.out⟩
    | false =>
    subst hcv
    go_upto_region 6 with fail
    obtain ⟨c106, hc⟩ : ∃ c : Bool, c = decide (v2 = 0 ∧ u ≠ 0) := ⟨_, rfl⟩
    have Hc106 := Lib.hid hc
    go_cut [21] (fun s wx => s = .bool c106 ∧ W = wx)
    case first =>
      have hv := HV2.out
      by_cases e1 : v2 = 0
      · rw [e1] at hv
        by_cases e2 : u = 0
        · have hf : c106 = false := by rw [hc]; simp [e2]
          subst hf
          clear hc Hc106
          obtain rfl : u = 0 := e2
          go_wp2_with fail
          go_meet
          exact ⟨rfl, rfl⟩
        · have e3 : (u != 0) = true := by simp [e2]
          have hf : c106 = true := by rw [hc]; simp [e1, e2]
          subst hf
          clear hc
          go_wp2_with fail
          go_meet
          exact ⟨rfl, rfl⟩
      · have e3 : (v2 == 0) = false := by simp [e1]
        have hf : c106 = false := by rw [hc]; simp [e1]
        subst hf
        clear hc
        go_wp2_with fail
        go_meet
        exact ⟨rfl, rfl⟩
    case rest =>
    obtain ⟨rfl, rfl⟩ := hcut
    clear hc
    cases hcv : c106 with
    | true =>
      subst hcv
      have hrf : r = false := by
        have ha := of_decide_eq_true Hc106.out.symm
        rw [HR2.out.1, Bool.and_eq_false_iff]
        left
        exact decide_eq_false (fun h => h.2.1.elim (HR2.out.2.2.1.1 ha.1) ha.2)
      have HRF := Lib.hid hrf
      clear hrf
      go_wp2_with fail
      go_ret
      exact ⟨by rw [HRF.out]; rfl, HB.out⟩
    | false =>
    subst hcv
    go_upto_region 7 with fail
    obtain ⟨c107, hc⟩ : ∃ c : Bool, c = decide (v3 = 0 ∧ S.size ≠ 0) := ⟨_, rfl⟩
    have Hc107 := Lib.hid hc
    go_cut [21] (fun s wx => s = .bool c107 ∧ W = wx)
    case first =>
      have hv := HV3.out
      by_cases e1 : v3 = 0
      · rw [e1] at hv
        by_cases e2 : S.size = 0
        · have hf : c107 = false := by rw [hc]; simp [e2]
          subst hf
          clear hc Hc107
          obtain rfl : S = ⟨#[]⟩ := size0 e2
          go_wp2_with fail
          go_meet
          exact ⟨rfl, rfl⟩
        · have e3 : S.toList.isEmpty = false := sizeN e2
          have hf : c107 = true := by rw [hc]; simp [e1, e2]
          subst hf
          clear hc
          go_wp2_with fail
          go_meet
          exact ⟨rfl, rfl⟩
      · have e3 : (v3 == 0) = false := by simp [e1]
        have hf : c107 = false := by rw [hc]; simp [e1]
        subst hf
        clear hc
        go_wp2_with fail
        go_meet
        exact ⟨rfl, rfl⟩
    case rest =>
    obtain ⟨rfl, rfl⟩ := hcut
    clear hc
    cases hcv : c107 with
    | true =>
      subst hcv
      have hrf : r = false := by
        have ha := of_decide_eq_true Hc107.out.symm
        rw [HR2.out.1, Bool.and_eq_false_iff]
        left
        exact decide_eq_false (fun h => h.2.2.1.elim (HR2.out.2.2.2.1.1 ha.1) ha.2)
      have HRF := Lib.hid hrf
      clear hrf
      go_wp2_with fail
      go_ret
      exact ⟨by rw [HRF.out]; rfl, HB.out⟩
    | false =>
    subst hcv
    go_upto_region 8 with fail
    obtain ⟨c108, hc⟩ : ∃ c : Bool, c = decide (v4 = 0 ∧ q ≠ 0) := ⟨_, rfl⟩
    have Hc108 := Lib.hid hc
    go_cut [21] (fun s wx => s = .bool c108 ∧ W = wx)
    case first =>
      have hv := HV4.out
      by_cases e1 : v4 = 0
      · rw [e1] at hv
        by_cases e2 : q = 0
        · have hf : c108 = false := by rw [hc]; simp [e2]
          subst hf
          clear hc Hc108
          obtain rfl : q = 0 := e2
          go_wp2_with fail
          go_meet
          exact ⟨rfl, rfl⟩
        · have e3 : 0 < q := by omega
          have e4 : decide ((0 : Int) < (q : Int)) = true := decide_eq_true (by omega)
          have hf : c108 = true := by rw [hc]; simp [e1, e2]
          subst hf
          clear hc
          go_wp2_with fail
          go_meet
          exact ⟨rfl, rfl⟩
      · have e3 : (v4 == 0) = false := by simp [e1]
        have hf : c108 = false := by rw [hc]; simp [e1]
        subst hf
        clear hc
        go_wp2_with fail
        go_meet
        exact ⟨rfl, rfl⟩
    case rest =>
    obtain ⟨rfl, rfl⟩ := hcut
    clear hc
    cases hcv : c108 with
    | true =>
      subst hcv
      have hrf : r = false := by
        have ha := of_decide_eq_true Hc108.out.symm
        rw [HR2.out.1, Bool.and_eq_false_iff]
        left
        exact decide_eq_false (fun h => h.2.2.2.1.elim (HR2.out.2.2.2.2.1 ha.1) ha.2)
      have HRF := Lib.hid hrf
      clear hrf
      go_wp2_with fail
      go_ret
      exact ⟨by rw [HRF.out]; rfl, HB.out⟩
    | false =>
    subst hcv
    go_upto_region 10 with fail
    obtain ⟨c110, hc⟩ : ∃ c : Bool, c = decide (kd = 2 ∧ nn ≠ 0 ∧ nn ≠ 1) := ⟨_, rfl⟩
    have Hc110 := Lib.hid hc
    go_cut [55] (fun s wx => s = .bool c110 ∧ W = wx)
    case first =>
      by_cases e1 : kd = 2
      · have b1 : (kd == 2) = true := by simp [e1]
        by_cases e2 : nn = 0
        · have hf : c110 = false := by rw [hc]; first | (simp [e2]; done) | (simp; omega)
          subst hf
          clear hc Hc110
          obtain rfl : nn = 0 := e2
          (try clear e1)
          go_wp2_with fail
          go_meet
          exact ⟨rfl, rfl⟩
        · have b2 : (nn != 0) = true := by simp [e2]
          by_cases e3 : nn = 1
          · have hf : c110 = false := by rw [hc]; first | (simp [e3]; done) | (simp; omega)
            subst hf
            clear hc Hc110
            have b3 : (nn != 1) = false := by simp [e3]
            clear e3
            (try clear e1)
            go_wp2_with fail
            go_meet
            exact ⟨rfl, rfl⟩
          · have hf : c110 = true := by rw [hc]; first | (simp [e1, e2, e3]; done) | (simp; omega)
            subst hf
            clear hc Hc110
            have b3 : (nn != 1) = true := by simp [e3]
            (try clear e1)
            go_wp2_with fail
            go_meet
            exact ⟨rfl, rfl⟩
      · have hf : c110 = false := by rw [hc]; first | (simp [e1]; done) | (simp; omega)
        subst hf
        clear hc Hc110
        have b1 : (kd == 2) = false := by simp [e1]
        (try clear e1)
        go_wp2_with fail
        go_meet
        exact ⟨rfl, rfl⟩
    case rest =>
    obtain ⟨rfl, rfl⟩ := hcut
    clear hc
    cases hcv : c110 with
    | true =>
      subst hcv
      have hrf : r = false := by
        have ha := of_decide_eq_true Hc110.out.symm
        rw [HR2.out.1, Bool.and_eq_false_iff]
        left
        exact decide_eq_false (fun h => (h.2.2.2.2.1 ha.1).elim ha.2.1 ha.2.2)
      have HRF := Lib.hid hrf
      clear hrf
      go_wp2_with fail
      go_ret
      exact ⟨by rw [HRF.out]; rfl, HB.out⟩
    | false =>
    subst hcv
    go_upto_region 12 with fail
    obtain ⟨c112, hc⟩ : ∃ c : Bool, c = decide (kd = 17 ∧ q ≠ m) := ⟨_, rfl⟩
    have Hc112 := Lib.hid hc
    go_cut [69] (fun s wx => s = .bool c112 ∧ W = wx)
    case first =>
      by_cases e1 : kd = 17
      · have b1 : (kd == 17) = true := by simp [e1]
        by_cases e2 : q = m
        · have hf : c112 = false := by rw [hc]; first | (simp [e2]; done) | (simp; omega)
          subst hf
          clear hc Hc112
          obtain rfl : q = m := e2
          (try clear e1)
          go_wp2_with fail
          go_meet
          exact ⟨rfl, rfl⟩
        · have hf : c112 = true := by rw [hc]; first | (simp [e1, e2]; done) | (simp; omega)
          subst hf
          clear hc Hc112
          have b2 : (q != m) = true := by simp [e2]
          have b3 : ((q : Int) != (m : Int)) = true := by simp; omega
          (try clear e1)
          go_wp2_with fail
          go_meet
          exact ⟨rfl, rfl⟩
      · have hf : c112 = false := by rw [hc]; first | (simp [e1]; done) | (simp; omega)
        subst hf
        clear hc Hc112
        have b1 : (kd == 17) = false := by simp [e1]
        (try clear e1)
        go_wp2_with fail
        go_meet
        exact ⟨rfl, rfl⟩
    case rest =>
    obtain ⟨rfl, rfl⟩ := hcut
    clear hc
    cases hcv : c112 with
    | true =>
      subst hcv
      have hrf : r = false := by
        have ha := of_decide_eq_true Hc112.out.symm
        rw [HR2.out.1, Bool.and_eq_false_iff]
        left
        exact decide_eq_false (fun h => ha.2 (h.2.2.2.2.2.1 ha.1))
      have HRF := Lib.hid hrf
      clear hrf
      go_wp2_with fail
      go_ret
      exact ⟨by rw [HRF.out]; rfl, HB.out⟩
    | false =>
    subst hcv
    go_upto_region 14 with fail
    obtain ⟨c114, hc⟩ : ∃ c : Bool, c = decide ((kd = 15 ∨ kd = 16) ∧ (m < 2 ∨ 4 < m)) := ⟨_, rfl⟩
    have Hc114 := Lib.hid hc
    go_cut [82] (fun s wx => s = .bool c114 ∧ W = wx)
    case first =>
      by_cases e1 : kd = 15 ∨ kd = 16
      · rcases e1 with e1 | e1
        · have b1 : (kd == 15) = true := by simp [e1]
          by_cases e2 : m < 2
          · have hf : c114 = true := by rw [hc]; first | (simp [e1, e2]; done) | (simp; omega)
            subst hf
            clear hc Hc114
            have b2 : decide ((m : Int) < 2) = true := decide_eq_true (by omega)
            (try clear e1)
            go_wp2_with fail
            go_meet
            exact ⟨rfl, rfl⟩
          · by_cases e3 : 4 < m
            · have hf : c114 = true := by rw [hc]; first | (simp [e1, e2, e3]; done) | (simp; omega)
              subst hf
              clear hc Hc114
              have b2 : decide ((m : Int) < 2) = false := decide_eq_false (by omega)
              have b3 : decide ((4 : Int) < (m : Int)) = true := decide_eq_true (by omega)
              (try clear e1)
              go_wp2_with fail
              go_meet
              exact ⟨rfl, rfl⟩
            · have hf : c114 = false := by rw [hc]; first | (simp [e1, e2, e3]; done) | (simp; omega)
              subst hf
              clear hc Hc114
              have b2 : decide ((m : Int) < 2) = false := decide_eq_false (by omega)
              have b3 : decide ((4 : Int) < (m : Int)) = false := decide_eq_false (by omega)
              (try clear e1)
              go_wp2_with fail
              go_meet
              exact ⟨rfl, rfl⟩
        · have b0 : (kd == 15) = false := by simp [e1]
          have b1 : (kd == 16) = true := by simp [e1]
          by_cases e2 : m < 2
          · have hf : c114 = true := by rw [hc]; first | (simp [e1, e2]; done) | (simp; omega)
            subst hf
            clear hc Hc114
            have b2 : decide ((m : Int) < 2) = true := decide_eq_true (by omega)
            (try clear e1)
            go_wp2_with fail
            go_meet
            exact ⟨rfl, rfl⟩
          · by_cases e3 : 4 < m
            · have hf : c114 = true := by rw [hc]; first | (simp [e1, e2, e3]; done) | (simp; omega)
              subst hf
              clear hc Hc114
              have b2 : decide ((m : Int) < 2) = false := decide_eq_false (by omega)
              have b3 : decide ((4 : Int) < (m : Int)) = true := decide_eq_true (by omega)
              (try clear e1)
              go_wp2_with fail
              go_meet
              exact ⟨rfl, rfl⟩
            · have hf : c114 = false := by rw [hc]; first | (simp [e1, e2, e3]; done) | (simp; omega)
              subst hf
              clear hc Hc114
              have b2 : decide ((m : Int) < 2) = false := decide_eq_false (by omega)
              have b3 : decide ((4 : Int) < (m : Int)) = false := decide_eq_false (by omega)
              (try clear e1)
              go_wp2_with fail
              go_meet
              exact ⟨rfl, rfl⟩
      · have b0 : (kd == 15) = false := by simp; omega
        have b1 : (kd == 16) = false := by simp; omega
        have hf : c114 = false := by rw [hc]; first | (simp [e1]; done) | (simp; omega)
        subst hf
        clear hc Hc114
        (try clear e1)
        go_wp2_with fail
        go_meet
        exact ⟨rfl, rfl⟩
    case rest =>
    obtain ⟨rfl, rfl⟩ := hcut
    clear hc
    cases hcv : c114 with
    | true =>
      subst hcv
      have hrf : r = false := by
        have ha := of_decide_eq_true Hc114.out.symm
        rw [HR2.out.1, Bool.and_eq_false_iff]
        left
        exact decide_eq_false (fun h => by have := h.2.2.2.2.2.2 ha.1; omega)
      have HRF := Lib.hid hrf
      clear hrf
      go_wp2_with fail
      go_ret
      exact ⟨by rw [HRF.out]; rfl, HB.out⟩
    | false =>
    subst hcv
    go_upto_region 16 with fail
    have hrr : r = !an := by
      obtain ⟨e, u1, u2, u3, u4⟩ := HR2.out
      have n5 := of_decide_eq_false Hc105.out.symm
      have n6 := of_decide_eq_false Hc106.out.symm
      have n7 := of_decide_eq_false Hc107.out.symm
      have n8 := of_decide_eq_false Hc108.out.symm
      have n10 := of_decide_eq_false Hc110.out.symm
      have n12 := of_decide_eq_false Hc112.out.symm
      have n14 := of_decide_eq_false Hc114.out.symm
      rw [e, decide_eq_true (by refine ⟨by omega, by omega, by omega, by omega, by omega, by omega, by omega⟩), Bool.true_and]
    have HRR := Lib.hid hrr
    have HC := Lib.hid (HAN.out ▸ HCF.out W HB.out pp wn.heap.size zp gP)
    clear hrr HAN
    go_wp2_with fail
    refine HC.out.mono ?_
    clear HC
    rintro e w1 ⟨rfl, hb1⟩
    have HB1 := Lib.hid hb1
    clear hb1
    go_wp2_with fail
    go_ret
    exact ⟨by rw [HRR.out]; rfl, HB.out.trans (HB1.out.mono (Nat.le_of_lt gX))⟩
  · have hr : r = false := by rw [hr]; unfold suchD; simp only [Bool.and_eq_false_imp, decide_eq_true_eq]; intro h; exact absurd ⟨h.1, h.2.1⟩ hkd
    subst hr
    clear hSe hqe hq hm hS han
    by_cases h1 : kd < 1
    · exact such_lo kd nn u S A1 A2 q c1 m c2 w h1 (by omega)
    · exact such_hi kd nn u S A1 A2 q c1 m c2 w (by omega) (by omega)
end
end Go.Proofs.YtccmhhmdenfecaaGreatDoor
