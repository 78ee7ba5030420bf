/- The walk of accordionref04.Unquote: written by wip/gen/ns.py. -/
import Derived.Test.YtlblddeemkefkaaGreatDoorNq
import Derived.Test.YtlblddeemkefkaaGreatDoorNo
namespace Go.Proofs.YtlblddeemkefkaaGreatDoor
set_option linter.unusedVariables false
set_option linter.unusedSimpArgs false
open Go.RowKit Go.Shelf
theorem wrong4_in {l : List UInt8} {i e : Int} (h : i < l.length) : wrong4 l i e = ([], 0, i, e) := by unfold wrong4; rw [if_neg (by omega)]
theorem wrong4_rw {l t : List UInt8} {c : UInt8} {q j : Nat} {i e : Int} (h : l.drop q = c :: t) (hq : q < l.length) (hi : i = ((q + j : Nat) : Int)) : rWrong (c :: t) q j e = wrong4 l i e := by
  have hlen := congrArg List.length h
  rw [List.length_drop] at hlen
  unfold rWrong wrong4
  rw [← hlen, hi]
  by_cases hc : l.length - q ≤ j
  · rw [if_pos hc, if_pos (by omega)]
    refine Prod.ext rfl (Prod.ext rfl (Prod.ext ?_ rfl))
    dsimp only; omega
  · rw [if_neg hc, if_neg (by omega)]
    refine Prod.ext rfl (Prod.ext rfl (Prod.ext ?_ rfl))
    dsimp only; omega
theorem rU_end (f : Nat) (o : List UInt8) (i : Int) : rU (f + 1) o i [] = ([], 0, i, 3) := rfl
theorem rU_34 (f : Nat) (o t : List UInt8) (i : Int) : rU (f + 1) o i (34 :: t) = (o, i + 1, 0, 0) := by rw [rU, if_pos rfl]
theorem rU_32 {f : Nat} {o t : List UInt8} {c : UInt8} {i : Int} (h0 : ¬ c = 34) (h1 : c.toNat < 32) : rU (f + 1) o i (c :: t) = ([], 0, i, 41) := by rw [rU, if_neg h0, if_pos h1]
theorem rU_92 (f : Nat) (o t : List UInt8) (i : Int) : rU (f + 1) o i (92 :: t) = (match rEsc t with
      | .error j => rWrong (92 :: t) i (j + 1) 41
      | .ok (b, n) => rU f (o ++ b) (i + 1 + n) (t.drop n)) := by rw [rU, if_neg (by decide), if_neg (by decide), if_pos rfl]; cases rEsc t <;> rfl
theorem rU_done {f : Nat} {o t : List UInt8} {c : UInt8} {i : Int} (h0 : ¬ c = 34) (h1 : ¬ c.toNat < 32) (h2 : ¬ c = 92) (hd : DoneU (c :: t).length (bat (c :: t) 0) (bat (c :: t) 1) (bat (c :: t) 2) (bat (c :: t) 3)) :
    rU (f + 1) o i (c :: t) = rU f (o ++ (c :: t).take (longB (bat (c :: t) 0))) (i + longB (bat (c :: t) 0)) ((c :: t).drop (longB (bat (c :: t) 0))) := by rw [rU, if_neg h0, if_neg h1, if_neg h2, if_pos hd]
theorem rU_bad {f : Nat} {o t : List UInt8} {c : UInt8} {i : Int} (h0 : ¬ c = 34) (h1 : ¬ c.toNat < 32) (h2 : ¬ c = 92) (hd : ¬ DoneU (c :: t).length (bat (c :: t) 0) (bat (c :: t) 1) (bat (c :: t) 2) (bat (c :: t) 3)) :
    rU (f + 1) o i (c :: t) = rWrong (c :: t) i (rK (c :: t) 4 0) 40 := by rw [rU, if_neg h0, if_neg h1, if_neg h2, if_neg hd]
theorem begB_take {l : List UInt8} {j : Nat} (h1 : 1 ≤ j) (hj : j ≤ l.length) : begB (l.take j) = decide (PartU j (bat l 0) (bat l 1) (bat l 2)) := by
  unfold begB
  exact decide_eq_decide.2 (part_take h1 hj)
theorem rK_yes {l : List UInt8} {k : Nat} (hk : k ≤ 3) (h1 : k < l.length) (h2 : PartU (k + 1) (bat l 0) (bat l 1) (bat l 2)) : k + 1 ≤ 3 ∧ rK l (4 - k) k = rK l (4 - (k + 1)) (k + 1) := by
  have hl := long_le (bat l 0)
  have h3 := h2.1
  refine ⟨by omega, ?_⟩
  obtain ⟨r, hr⟩ : ∃ r, 4 - k = r + 1 := ⟨3 - k, by omega⟩
  rw [hr, rK, if_pos ⟨h1, h2⟩, show 4 - (k + 1) = r by omega]
theorem rK_no {l : List UInt8} {k : Nat} (hk : k ≤ 3) (h : ¬ (k < l.length ∧ PartU (k + 1) (bat l 0) (bat l 1) (bat l 2))) : rK l (4 - k) k = k := by
  obtain ⟨r, hr⟩ : ∃ r, 4 - k = r + 1 := ⟨3 - k, by omega⟩
  rw [hr, rK, if_neg h]
set_option maxHeartbeats 16000000 in
set_option maxRecDepth 100000 in
theorem runq_any (l : List UInt8) (w : World) (hl : l.length ≤ 1073741824) : Calls Tryz.prog 84 #[strV l] w fun o w' => o = .returned (urV (rUnq l)) ∧ Below w.heap.size w w' := by
  have hs : (⟨l.toArray⟩ : ByteArray).size = l.length := by simp [ByteArray.size]
  obtain ⟨res, hres⟩ : ∃ r, r = urV (rUnq l) := ⟨_, rfl⟩
  rw [← hres]
  unfold strV
  by_cases hnil : l = []
  · subst hnil
    have hx : res = urV (wrong4 [] 0 41) := hres
    clear hres hs
    have hww := fun W => wrong4_any [] 0 41 W
    have e4 : wrong4 [] 0 41 = ([], 0, 0, 3) := rfl
    rw [e4] at hww hx
    unfold urV strV at hww hx
    have HW := Lib.hid hww
    have HR := Lib.hid hx
    clear hww hx e4
    go_enter Tryz.func84, Tryz.ntmps84
    go_wp2_with fail
    refine (HW.out _).mono ?_
    rintro e w9 ⟨rfl, rfl⟩
    go_wp2_with fail
    refine bodyPost_ret (v := .tuple #[.string ⟨#[]⟩, .int .i64 0, .int .i64 0, .int .i64 3]) (by simp [results, Tryz.results84, go_sem]) rfl ?_
    exact ⟨by rw [HR.out]; first | done | rfl, Below.refl _ _⟩
  have hpos : 0 < l.length := List.length_pos_iff.2 hnil
  have hne : (l == []) = false := by simpa using hnil
  have hps : 0 < (⟨l.toArray⟩ : ByteArray).size := by omega
  have hix := bat_idx (l := l) (i := 0) hpos hps
  have hd0 := drop_get hpos
  rw [List.drop_zero] at hd0
  generalize l.getD 0 0 = c0 at *
  by_cases h34 : c0 = 34
  case neg =>
    have n0 : ((c0.toNat : Int) == 34) = false := by
      simp only [beq_eq_false_iff_ne, ne_eq]
      intro e
      exact h34 (UInt8.toNat_inj.1 (show c0.toNat = 34 by omega))
    have n1 : ((c0.toNat : Int) != 34) = true := by simp only [bne, n0, Bool.not_false]
    have hr0 : res = urV (wrong4 l 0 41) := by
      rw [hres, wrong4_in (by omega), hd0]
      unfold rUnq
      dsimp only
      rw [if_pos h34]
    have hww := fun W => wrong4_any l 0 41 W
    generalize wrong4 l 0 41 = rr at hww hr0
    obtain ⟨r0, r1, r2, r3⟩ := rr
    unfold urV strV at hww hr0
    have HW := Lib.hid hww
    have HR := Lib.hid hr0
    clear hww hr0 hres hd0 h34
    go_enter Tryz.func84, Tryz.ntmps84
    go_wp2_with fail
    refine (HW.out _).mono ?_
    rintro e w9 ⟨rfl, rfl⟩
    go_wp2_with fail
    refine bodyPost_ret (v := .tuple #[.string ⟨r0.toArray⟩, .int .i64 r1, .int .i64 r2, .int .i64 r3]) (by simp [results, Tryz.results84, go_sem]) rfl ?_
    exact ⟨by rw [HR.out]; first | done | rfl, Below.refl _ _⟩
  subst h34
  have HR0 := Lib.hid (show urV (rU l.length [] ((1 : Nat) : Int) (l.drop 1)) = res by
    rw [hres]
    conv => rhs; rw [hd0]
    unfold rUnq
    dsimp only
    rw [if_neg (by decide)]
    have e : (l.drop (0 + 1)).length + 1 = l.length := by rw [List.length_drop]; omega
    rw [e]
    rfl)
  clear hres hd0
  go_enter Tryz.func84, Tryz.ntmps84
  go_wp2_with fail
  go_loopw [6, 7] (fun ov av wr => ∃ (o : List UInt8) (q f : Nat), ov = .string ⟨o.toArray⟩ ∧ av = .int .i64 q ∧ q ≤ l.length ∧ l.length < f + q ∧ o.length ≤ q ∧ Below w.heap.size w wr ∧ Hid (urV (rU f o q (l.drop q)) = res)) (fun _ av _ => l.length - (intOf av).toNat)
  case atStart => exact ⟨[], 1, l.length, rfl, rfl, by omega, by omega, by simp, Below.refl _ _, HR0⟩
  case round =>
    clear HR0
    obtain ⟨o, q, f, rfl, rfl, hq, hf, ho, hb, hm⟩ := hrel
    have HB := Lib.hid hb
    clear hb
    obtain ⟨f, rfl⟩ : ∃ g, f = g + 1 := ⟨f - 1, by omega⟩
    by_cases hlt : q < l.length
    case neg =>
      have hlz : ¬ (q : Int) < (l.length : Int) := by omega
      have hww := fun W => wrong4_any l q 3 W
      have hrr : res = urV (wrong4 l q 3) := by
        rw [← hm.out, List.drop_of_length_le (by omega), rU_end]
        unfold wrong4
        rw [if_pos (by omega), show q = l.length by omega]
      generalize wrong4 l q 3 = rr at hww hrr
      obtain ⟨r0, r1, r2, r3⟩ := rr
      unfold urV strV at hww hrr
      have HW := Lib.hid hww
      have HR := Lib.hid hrr
      clear hww hrr hm
      go_wp2_with fail
      refine (HW.out _).mono ?_
      rintro e w9 ⟨rfl, rfl⟩
      clear HW
      go_wp2_with fail
      refine bodyPost_ret (v := .tuple #[.string ⟨r0.toArray⟩, .int .i64 r1, .int .i64 r2, .int .i64 r3]) (by simp [results, Tryz.results84, go_sem]) rfl ?_
      exact ⟨by rw [HR.out]; first | done | rfl, HB.out⟩
    have hlz : (q : Int) < (l.length : Int) := by omega
    have hks : q < (⟨l.toArray⟩ : ByteArray).size := by omega
    have hix2 := bat_idx (l := l) (i := q) hlt hks
    have hdq := drop_get hlt
    have hm2 := hm.out
    generalize l.getD q 0 = c at *
    rw [hdq] at hm2
    have HM := Lib.hid hm2
    have HD := Lib.hid hdq
    clear hm hm2 hdq
    have qq : IntKind.i64.wrap ((q : Int) + 1) = (q : Int) + 1 := IntWalk.i64_in _ (by omega)
    by_cases h34 : c = 34
    case pos =>
      subst h34
      have HR := Lib.hid (show res = .tuple #[.string ⟨o.toArray⟩, .int .i64 ((q : Int) + 1), .int .i64 0, .int .i64 0] by rw [← HM.out, rU_34]; rfl)
      clear HM HD
      go_wp2_with fail
      refine bodyPost_ret (v := .tuple #[.string ⟨o.toArray⟩, .int .i64 ((q : Int) + 1), .int .i64 0, .int .i64 0]) (by simp [results, Tryz.results84, go_sem]) rfl ?_
      exact ⟨by rw [HR.out]; first | done | rfl, HB.out⟩
    have n34 : ((c.toNat : Int) == 34) = false := by
      simp only [beq_eq_false_iff_ne, ne_eq]
      intro e
      exact h34 (UInt8.toNat_inj.1 (show c.toNat = 34 by omega))
    by_cases h32 : c.toNat < 32
    case pos =>
      have z32 : (c.toNat : Int) < 32 := by omega
      have hww := fun W => wrong4_any l q 41 W
      have hrr : res = urV (wrong4 l q 41) := by
        rw [← HM.out, rU_32 h34 h32, wrong4_in (by omega)]
      generalize wrong4 l q 41 = rr at hww hrr
      obtain ⟨r0, r1, r2, r3⟩ := rr
      unfold urV strV at hww hrr
      have HW := Lib.hid hww
      have HR := Lib.hid hrr
      clear hww hrr HM HD h34 h32
      go_wp2_with fail
      refine (HW.out _).mono ?_
      rintro e w9 ⟨rfl, rfl⟩
      clear HW
      go_wp2_with fail
      refine bodyPost_ret (v := .tuple #[.string ⟨r0.toArray⟩, .int .i64 r1, .int .i64 r2, .int .i64 r3]) (by simp [results, Tryz.results84, go_sem]) rfl ?_
      exact ⟨by rw [HR.out]; first | done | rfl, HB.out⟩
    have z32 : ¬ (c.toNat : Int) < 32 := by omega
    by_cases h92 : c = 92
    case pos =>
      subst h92
      have hm2 := HM.out
      rw [rU_92] at hm2
      have hee := fun W => resc_any l q hl hlt W
      unfold strV at hee
      clear HM h34 h32
      cases hr : rEsc (l.drop (q + 1))
      case error jj =>
        rw [hr] at hm2 hee
        dsimp only at hm2
        obtain ⟨pz, hpz⟩ : ∃ z, z = q + 1 + jj := ⟨_, rfl⟩
        rw [escO, ← hpz] at hee
        have HE := Lib.hid hee
        have hww := fun W => wrong4_any l pz 41 W
        have hrr : res = urV (wrong4 l pz 41) := by
          rw [← hm2, wrong4_rw HD.out hlt (i := (pz : Int)) (by rw [hpz]; omega)]
        generalize wrong4 l pz 41 = rr at hww hrr
        obtain ⟨r0, r1, r2, r3⟩ := rr
        unfold urV strV at hww hrr
        have HW := Lib.hid hww
        have HR := Lib.hid hrr
        clear hww hrr hm2 hee hr HD hpz
        go_wp2_with fail
        refine (HE.out _).mono ?_
        rintro e w1 ⟨rfl, hb1⟩
        have HB2 := Lib.hid (HB.out.trans (hb1.mono HB.out.size))
        clear hb1 HE HB
        go_wp2_with fail
        refine (HW.out _).mono ?_
        rintro e w9 ⟨rfl, rfl⟩
        clear HW
        go_wp2_with fail
        refine bodyPost_ret (v := .tuple #[.string ⟨r0.toArray⟩, .int .i64 r1, .int .i64 r2, .int .i64 r3]) (by simp [results, Tryz.results84, go_sem]) rfl ?_
        exact ⟨by rw [HR.out]; first | done | rfl, HB2.out⟩
      case ok bn =>
        obtain ⟨b, n⟩ := bn
        obtain ⟨k1, k2, k3⟩ := rEsc_len hr
        rw [List.length_drop] at k2
        rw [hr] at hm2 hee
        dsimp only at hm2
        obtain ⟨pz, hpz⟩ : ∃ z, z = q + 1 + n := ⟨_, rfl⟩
        rw [escO, ← hpz] at hee
        have HE := Lib.hid hee
        rw [List.drop_drop, ← hpz, show (q : Int) + 1 + (n : Int) = (pz : Int) by rw [hpz]; push_cast; omega] at hm2
        have HM2 := Lib.hid hm2
        have hbl : (o ++ b).length ≤ pz := by rw [List.length_append]; omega
        have hsum : o.length + b.length ≤ 9223372036854775807 := by omega
        have hadd := str_app o b
        have HP := Lib.hid (show pz ≤ l.length ∧ l.length < f + pz ∧ q < pz by omega)
        have hadr := fun W => str_add o b hsum W
        clear hm2 hee hr HD hpz k1 k2 k3 hf hq
        go_wp2_with fail
        refine (HE.out _).mono ?_
        rintro e w1 ⟨rfl, hb1⟩
        have HB2 := Lib.hid (HB.out.trans (hb1.mono HB.out.size))
        clear hb1 HE HB
        go_wp2_with fail
        go_roundw
        case rel => exact ⟨o ++ b, pz, f, by first | rfl | rw [hadd], rfl, HP.out.1, HP.out.2.1, hbl, HB2.out, HM2⟩
        case measure => have := HP.out; simp only [intOf]; omega
    have n92 : ((c.toNat : Int) == 92) = false := by
      simp only [beq_eq_false_iff_ne, ne_eq]
      intro e
      exact h92 (UInt8.toNat_inj.1 (show c.toNat = 92 by omega))
    have hfr := fun W => sub_from l q hq W
    have hnn := fun W => rnext4_any (l.drop q) (by rw [List.length_drop]; omega) W
    unfold nextV strV at hnn
    by_cases hdn : DoneU (l.drop q).length (bat (l.drop q) 0) (bat (l.drop q) 1) (bat (l.drop q) 2) (bat (l.drop q) 3)
    case pos =>
      have hm2 := HM.out
      have hdn' := hdn
      rw [HD.out] at hdn'
      rw [rU_done h34 h32 h92 hdn', ← HD.out] at hm2
      rw [if_pos hdn] at hnn
      have hn1 := hdn.1
      have hn2 := hdn.2.1
      rw [List.length_drop] at hn2
      generalize vUp (headZ (longB (bat (l.drop q) 0))) (l.drop q) (longB (bat (l.drop q) 0) - 1) = vv at hnn
      generalize longB (bat (l.drop q) 0) = n at *
      obtain ⟨pz, hpz⟩ : ∃ z, z = q + n := ⟨_, rfl⟩
      have q3 : IntKind.i64.wrap ((q : Int) + (n : Int)) = (pz : Int) := by rw [IntWalk.i64_in _ (by omega)]; omega
      rw [List.drop_drop, ← hpz, show (q : Int) + (n : Int) = (pz : Int) by rw [hpz]; push_cast; omega] at hm2
      have hsb := fun W => subr_run l q pz (by omega) (by omega) W
      rw [show pz - q = n by omega] at hsb
      generalize hbb : (l.drop q).take n = b at *
      have hblen : b.length ≤ n := by rw [← hbb]; exact List.length_take_le _ _
      have HM2 := Lib.hid hm2
      have HN := Lib.hid hnn
      have hbl : (o ++ b).length ≤ pz := by rw [List.length_append]; omega
      have hsum : o.length + b.length ≤ 9223372036854775807 := by omega
      have hadd := str_app o b
      have hadr := fun W => str_add o b hsum W
      have HP := Lib.hid (show pz ≤ l.length ∧ l.length < f + pz ∧ q < pz by omega)
      clear hm2 hnn HM HD hpz hn1 hn2 hdn hdn' hbb hblen hf hq h34 h32 h92
      go_wp2_with fail
      refine (HN.out _).mono ?_
      rintro e w1 ⟨rfl, hb1⟩
      have HB2 := Lib.hid (HB.out.trans (hb1.mono HB.out.size))
      clear hb1 HN HB
      go_wp2_with fail
      go_roundw
      case rel => exact ⟨o ++ b, pz, f, by first | rfl | rw [hadd], rfl, HP.out.1, HP.out.2.1, hbl, HB2.out, HM2⟩
      case measure => have := HP.out; simp only [intOf]; omega
    have hm2 := HM.out
    have hdn' := hdn
    rw [HD.out] at hdn'
    rw [rU_bad h34 h32 h92 hdn', ← HD.out] at hm2
    rw [if_neg hdn] at hnn
    have HN := Lib.hid hnn
    have HM2 := Lib.hid hm2
    have HH := Lib.hid (And.intro h34 (And.intro h32 h92))
    clear hm2 hnn HM hdn hdn' h34 h32 h92
    go_wp2_with fail
    refine (HN.out _).mono ?_
    rintro e w1 ⟨rfl, hb1⟩
    have HB2 := Lib.hid (HB.out.trans (hb1.mono HB.out.size))
    clear hb1 HN HB
    go_wp2_with fail
    go_loopw [15] (fun kv wx => ∃ k : Nat, kv = .int .i64 k ∧ k ≤ 3 ∧ q + k ≤ l.length ∧ Below w.heap.size w wx ∧ Hid (rK (l.drop q) (4 - k) k = rK (l.drop q) 4 0)) (fun kv _ => 4 - (intOf kv).toNat)
    case atStart => exact ⟨0, rfl, by omega, by omega, HB2.out, Lib.hid rfl⟩
    case round =>
      clear HB2
      obtain ⟨k, rfl, hk, hqk, hb, hkk⟩ := hrel
      have HB := Lib.hid hb
      clear hb
      obtain ⟨pz, hpz⟩ : ∃ z, z = q + k := ⟨_, rfl⟩
      have q3 : IntKind.i64.wrap ((q : Int) + (k : Int)) = (pz : Int) := by rw [IntWalk.i64_in _ (by omega)]; omega
      obtain ⟨p1, hp1⟩ : ∃ z, z = pz + 1 := ⟨_, rfl⟩
      have q4 : IntKind.i64.wrap ((pz : Int) + 1) = (p1 : Int) := by rw [IntWalk.i64_in _ (by omega)]; omega
      have q5 : IntKind.i64.wrap ((k : Int) + 1) = (k : Int) + 1 := IntWalk.i64_in _ (by omega)
      by_cases hpl : pz < l.length
      case neg =>
        have z5 : decide ((pz : Int) < (l.length : Int)) = false := decide_eq_false (by omega)
        have hww := fun W => wrong4_any l pz 40 W
        have hrr : res = urV (wrong4 l pz 40) := by
          rw [← HM2.out, ← hkk.out, rK_no hk (by rw [List.length_drop]; omega), HD.out, wrong4_rw HD.out hlt (i := (pz : Int)) (by rw [hpz])]
        generalize wrong4 l pz 40 = rr at hww hrr
        obtain ⟨r0, r1, r2, r3⟩ := rr
        unfold urV strV at hww hrr
        have HW := Lib.hid hww
        have HR := Lib.hid hrr
        clear hww hrr hkk HM2 HD hpz hp1
        go_wp2_with fail
        refine (HW.out _).mono ?_
        rintro e w9 ⟨rfl, rfl⟩
        clear HW
        go_wp2_with fail
        refine bodyPost_ret (v := .tuple #[.string ⟨r0.toArray⟩, .int .i64 r1, .int .i64 r2, .int .i64 r3]) (by simp [results, Tryz.results84, go_sem]) rfl ?_
        exact ⟨by rw [HR.out]; first | done | rfl, HB.out⟩
      have z5 : decide ((pz : Int) < (l.length : Int)) = true := decide_eq_true (by omega)
      have hsb := fun W => subr_run l q p1 (by omega) (by omega) W
      rw [show p1 - q = k + 1 by omega] at hsb
      have hbg := fun W => rbegins_any ((l.drop q).take (k + 1)) (by rw [List.length_take, List.length_drop]; omega) (by rw [List.length_take]; omega) W
      rw [begB_take (by omega) (by rw [List.length_drop]; omega)] at hbg
      unfold strV at hbg
      generalize (l.drop q).take (k + 1) = b at *
      by_cases hpu : PartU (k + 1) (bat (l.drop q) 0) (bat (l.drop q) 1) (bat (l.drop q) 2)
      case pos =>
        obtain ⟨y1, y2⟩ := rK_yes hk (by rw [List.length_drop]; omega) hpu
        rw [decide_eq_true hpu] at hbg
        have HK2 := Lib.hid (show rK (l.drop q) (4 - (k + 1)) (k + 1) = rK (l.drop q) 4 0 by rw [← y2]; exact hkk.out)
        have HG := Lib.hid hbg
        have HP := Lib.hid (show k + 1 ≤ 3 ∧ q + (k + 1) ≤ l.length by omega)
        clear hkk hbg hpu y1 y2 hk hqk hp1 hpz
        go_wp2_with fail
        refine (HG.out _).mono ?_
        rintro e w2 ⟨rfl, hb2⟩
        have HB3 := Lib.hid (HB.out.trans (hb2.mono HB.out.size))
        clear hb2 HG HB
        go_wp2_with fail
        go_roundw
        case rel => exact ⟨k + 1, by go_num, HP.out.1, HP.out.2, HB3.out, HK2⟩
        case measure => have := HP.out; simp only [intOf]; omega
      rw [decide_eq_false hpu] at hbg
      have HG := Lib.hid hbg
      have hww := fun W => wrong4_any l pz 40 W
      have hrr : res = urV (wrong4 l pz 40) := by
        rw [← HM2.out, ← hkk.out, rK_no hk (fun h => hpu h.2), HD.out, wrong4_rw HD.out hlt (i := (pz : Int)) (by rw [hpz])]
      generalize wrong4 l pz 40 = rr at hww hrr
      obtain ⟨r0, r1, r2, r3⟩ := rr
      unfold urV strV at hww hrr
      have HW := Lib.hid hww
      have HR := Lib.hid hrr
      clear hww hrr hkk HM2 HD hpz hp1 hbg hpu hk hqk
      go_wp2_with fail
      refine (HG.out _).mono ?_
      rintro e w2 ⟨rfl, hb2⟩
      have HB3 := Lib.hid (HB.out.trans (hb2.mono HB.out.size))
      clear hb2 HG HB
      go_wp2_with fail
      refine (HW.out _).mono ?_
      rintro e w9 ⟨rfl, rfl⟩
      clear HW
      go_wp2_with fail
      refine bodyPost_ret (v := .tuple #[.string ⟨r0.toArray⟩, .int .i64 r1, .int .i64 r2, .int .i64 r3]) (by simp [results, Tryz.results84, go_sem]) rfl ?_
      exact ⟨by rw [HR.out]; first | done | rfl, HB3.out⟩
end Go.Proofs.YtlblddeemkefkaaGreatDoor
