/- Plain facts for the walk of accordionref04: the values that Put, Next and Begins compare. No program here. -/
import Derived.Test.YtccmhhmdenfecaaGreatDoorLr
namespace Go.Proofs.YtccmhhmdenfecaaGreatDoor
set_option linter.unusedVariables false
set_option linter.unusedSimpArgs false
/-- A scalar value. -/
def scalB (n : Int) : Bool := decide (0 ≤ n) && (decide (n ≤ 1114111) && (decide (n < 55296) || decide (57343 < n)))
theorem scal_iff (n : Int) : scalB n = true ↔ 0 ≤ n ∧ n ≤ 1114111 ∧ (n < 55296 ∨ 57343 < n) := by
  unfold scalB
  simp only [Bool.and_eq_true, Bool.or_eq_true, decide_eq_true_eq]
/-- What Put gives. -/
def putL (n : Int) : List UInt8 := if scalB n = true then Lib.encodeRune n else []
def headZ (n : Nat) : Int := if n = 2 then 192 else if n = 3 then 224 else if n = 4 then 240 else 0
def leastZ (n : Nat) : Int := if n = 2 then 128 else if n = 3 then 2048 else if n = 4 then 65536 else 0
/-- The value of the first bytes. -/
def vUp (h : Int) (l : List UInt8) : Nat → Int
  | 0 => (bat l 0 : Int) - h
  | k + 1 => 64 * vUp h l k + (bat l (k + 1) : Int) % 64
theorem vUp_bd {l : List UInt8} {h : Int} (h0 : 0 ≤ h) (hh : 0 ≤ (bat l 0 : Int) - h) : ∀ k, 0 ≤ vUp h l k ∧ vUp h l k < 256 * 64 ^ k
  | 0 => by have := bat_lt l 0; unfold vUp; omega
  | k + 1 => by
    obtain ⟨a, b⟩ := vUp_bd (l := l) h0 hh k
    unfold vUp
    rw [Int.pow_succ]
    generalize (64 : Int) ^ k = p at *
    generalize vUp h l k = v at *
    omega
theorem head_nn (n : Nat) : 0 ≤ headZ n := by unfold headZ; (repeat' split) <;> omega
theorem head_le {l : List UInt8} : 0 ≤ (bat l 0 : Int) - headZ (longB (bat l 0)) := by
  generalize bat l 0 = b
  unfold longB headZ
  (repeat' split) <;> omega
theorem u8_of {z : Int} {x : UInt8} (h0 : 0 ≤ z) (h1 : z < 256) : z.toNat.toUInt8 = x ↔ z = (x.toNat : Int) := by
  constructor
  · rintro rfl
    have : (z.toNat.toUInt8).toNat = z.toNat := by
      show (UInt8.ofNat z.toNat).toNat = _
      rw [UInt8.toNat_ofNat']
      omega
    omega
  · intro h
    apply UInt8.toNat_inj.1
    have : (z.toNat.toUInt8).toNat = z.toNat := by
      show (UInt8.ofNat z.toNat).toNat = _
      rw [UInt8.toNat_ofNat']
      omega
    omega
set_option maxRecDepth 100000 in
set_option maxHeartbeats 4000000 in
/-- What Next compares says whether the bytes begin with an encoding. -/
theorem next_iff {l : List UInt8} (h1 : 1 ≤ longB (bat l 0)) (hn : longB (bat l 0) ≤ l.length) :
    (scalB (vUp (headZ (longB (bat l 0))) l (longB (bat l 0) - 1)) = true ∧ Lib.encodeRune (vUp (headZ (longB (bat l 0))) l (longB (bat l 0) - 1)) = l.take (longB (bat l 0))) ↔ DoneU l.length (bat l 0) (bat l 1) (bat l 2) (bat l 3) := by
  have hc := cls (bat l 0) (bat_lt l 0)
  have g1 := bat_lt l 1
  have g2 := bat_lt l 2
  have g3 := bat_lt l 3
  rw [scal_iff]
  unfold DoneU
  have h4 : longB (bat l 0) = 1 ∨ longB (bat l 0) = 2 ∨ longB (bat l 0) = 3 ∨ longB (bat l 0) = 4 := by have := long_le (bat l 0); omega
  have hl : ∀ {x : UInt8}, bat (x :: l) 0 = x.toNat := rfl
  rcases h4 with e | e | e | e
  · obtain ⟨x, t, rfl⟩ : ∃ x t, l = x :: t := by cases l with | nil => simp at hn; omega | cons x t => exact ⟨x, t, rfl⟩
    rw [e] at hn ⊢
    have hb : bat (x :: t) 0 = x.toNat := rfl
    generalize hv : vUp (headZ 1) (x :: t) (1 - 1) = v
    have hv2 : v = x.toNat := by rw [← hv]; show (bat (x :: t) 0 : Int) - headZ 1 = _; rw [hb]; unfold headZ; simp
    have hx : x.toNat < 128 := by
      rw [hb] at e
      unfold longB at e
      (repeat' split at e) <;> omega
    constructor
    · intro _
      refine ⟨by omega, hn, fun h => by omega, fun h => by omega, fun h => by omega⟩
    · intro _
      refine ⟨by omega, ?_⟩
      unfold Lib.encodeRune
      rw [Lib.encodeRuneZ_one (by omega) (by omega)]
      show [v.toNat.toUInt8] = [x]
      rw [(u8_of (by omega) (by omega)).2 hv2]
  · obtain ⟨x, y, t, rfl⟩ : ∃ x y t, l = x :: y :: t := by
      rw [e] at hn
      match l, hn with
      | x :: y :: t, _ => exact ⟨x, y, t, rfl⟩
    rw [e] at hn ⊢
    have hb0 : bat (x :: y :: t) 0 = x.toNat := rfl
    have hb1 : bat (x :: y :: t) 1 = y.toNat := rfl
    generalize hv : vUp (headZ 2) (x :: y :: t) (2 - 1) = v
    have hv2 : v = 64 * ((x.toNat : Int) - 192) + (y.toNat : Int) % 64 := by rw [← hv]; rfl
    rw [hb0] at e hc ⊢
    rw [hb1] at g1 ⊢
    generalize bat (x :: y :: t) 2 = b2 at *
    generalize bat (x :: y :: t) 3 = b3 at *
    have hx : 194 ≤ x.toNat ∧ x.toNat < 224 ∧ loB x.toNat = 128 ∧ hiB x.toNat = 191 := by
      unfold Cls at hc
      omega
    obtain ⟨x1, x2, x3, x4⟩ := hx
    rw [x3, x4]
    have hz : Lib.encodeRuneZ v = [192 + v / 64, 128 + v % 64] := Lib.encodeRuneZ_two (by omega) (by omega)
    have ht : List.take 2 (x :: y :: t) = [x, y] := rfl
    unfold Lib.encodeRune
    rw [hz, ht]
    simp only [List.map_cons, List.map_nil, List.cons.injEq, and_true]
    rw [u8_of (by omega) (by omega), u8_of (by omega) (by omega)]
    omega
  · obtain ⟨x, y, z, t, rfl⟩ : ∃ x y z t, l = x :: y :: z :: t := by
      rw [e] at hn
      match l, hn with
      | x :: y :: z :: t, _ => exact ⟨x, y, z, t, rfl⟩
    rw [e] at hn ⊢
    have hb0 : bat (x :: y :: z :: t) 0 = x.toNat := rfl
    have hb1 : bat (x :: y :: z :: t) 1 = y.toNat := rfl
    have hb2 : bat (x :: y :: z :: t) 2 = z.toNat := rfl
    generalize hv : vUp (headZ 3) (x :: y :: z :: t) (3 - 1) = v
    have hv2 : v = 64 * (64 * ((x.toNat : Int) - 224) + (y.toNat : Int) % 64) + (z.toNat : Int) % 64 := by rw [← hv]; rfl
    rw [hb0] at e hc ⊢
    rw [hb1] at g1 ⊢
    rw [hb2] at g2 ⊢
    generalize bat (x :: y :: z :: t) 3 = b3 at *
    have ht : List.take 3 (x :: y :: z :: t) = [x, y, z] := rfl
    have hx : (x.toNat = 224 ∧ loB x.toNat = 160 ∧ hiB x.toNat = 191) ∨ ((225 ≤ x.toNat ∧ x.toNat < 237) ∧ loB x.toNat = 128 ∧ hiB x.toNat = 191) ∨ (x.toNat = 237 ∧ loB x.toNat = 128 ∧ hiB x.toNat = 159) ∨ ((238 ≤ x.toNat ∧ x.toNat < 240) ∧ loB x.toNat = 128 ∧ hiB x.toNat = 191) := by
      unfold Cls at hc
      omega
    rw [ht]
    unfold Lib.encodeRune
    rcases Int.lt_or_le v 2048 with hs | hs
    · constructor
      · rintro ⟨-, hq⟩
        exfalso
        rcases Int.lt_or_le v 128 with hs2 | hs2
        · rw [Lib.encodeRuneZ_one (by omega) (by omega)] at hq
          exact absurd (congrArg List.length hq) (by simp)
        · rw [Lib.encodeRuneZ_two (by omega) (by omega)] at hq
          exact absurd (congrArg List.length hq) (by simp)
      · rintro ⟨-, -, hq, hq2, -⟩
        have := hq (by omega)
        have := hq2 (by omega)
        omega
    · by_cases hsur : 55296 ≤ v ∧ v ≤ 57343
      · constructor
        · rintro ⟨hq, -⟩
          exfalso
          omega
        · rintro ⟨-, -, hq, hq2, -⟩
          have := hq (by omega)
          have := hq2 (by omega)
          omega
      · rw [Lib.encodeRuneZ_three (by omega)]
        simp only [List.map_cons, List.map_nil, List.cons.injEq, and_true]
        rw [u8_of (by omega) (by omega), u8_of (by omega) (by omega), u8_of (by omega) (by omega)]
        omega
  · obtain ⟨x, y, z, u, t, rfl⟩ : ∃ x y z u t, l = x :: y :: z :: u :: t := by
      rw [e] at hn
      match l, hn with
      | x :: y :: z :: u :: t, _ => exact ⟨x, y, z, u, t, rfl⟩
    rw [e] at hn ⊢
    have hb0 : bat (x :: y :: z :: u :: t) 0 = x.toNat := rfl
    have hb1 : bat (x :: y :: z :: u :: t) 1 = y.toNat := rfl
    have hb2 : bat (x :: y :: z :: u :: t) 2 = z.toNat := rfl
    have hb3 : bat (x :: y :: z :: u :: t) 3 = u.toNat := rfl
    generalize hv : vUp (headZ 4) (x :: y :: z :: u :: t) (4 - 1) = v
    have hv2 : v = 64 * (64 * (64 * ((x.toNat : Int) - 240) + (y.toNat : Int) % 64) + (z.toNat : Int) % 64) + (u.toNat : Int) % 64 := by rw [← hv]; rfl
    rw [hb0] at e hc ⊢
    rw [hb1] at g1 ⊢
    rw [hb2] at g2 ⊢
    rw [hb3] at g3 ⊢
    have ht : List.take 4 (x :: y :: z :: u :: t) = [x, y, z, u] := rfl
    have hx : (x.toNat = 240 ∧ loB x.toNat = 144 ∧ hiB x.toNat = 191) ∨ ((241 ≤ x.toNat ∧ x.toNat < 244) ∧ loB x.toNat = 128 ∧ hiB x.toNat = 191) ∨ (x.toNat = 244 ∧ loB x.toNat = 128 ∧ hiB x.toNat = 143) := by
      unfold Cls at hc
      omega
    rw [ht]
    unfold Lib.encodeRune
    rcases Int.lt_or_le v 65536 with hs | hs
    · constructor
      · rintro ⟨hp, hq⟩
        exfalso
        have hlen := congrArg List.length hq
        rw [List.length_map] at hlen
        rcases Int.lt_or_le v 128 with hs2 | hs2
        · rw [Lib.encodeRuneZ_one (by omega) (by omega)] at hlen
          simp at hlen
        · rcases Int.lt_or_le v 2048 with hs3 | hs3
          · rw [Lib.encodeRuneZ_two (by omega) (by omega)] at hlen
            simp at hlen
          · rw [Lib.encodeRuneZ_three (by omega)] at hlen
            simp at hlen
      · rintro ⟨-, -, hq, hq2, hq3⟩
        have := hq (by omega)
        have := hq2 (by omega)
        have := hq3 (by omega)
        omega
    · rcases Int.lt_or_le 1114111 v with hbig | hbig
      · constructor
        · rintro ⟨hq, -⟩
          exfalso
          omega
        · rintro ⟨-, -, hq, hq2, hq3⟩
          have := hq (by omega)
          have := hq2 (by omega)
          have := hq3 (by omega)
          omega
      · rw [Lib.encodeRuneZ_four (by omega) (by omega)]
        simp only [List.map_cons, List.map_nil, List.cons.injEq, and_true]
        rw [u8_of (by omega) (by omega), u8_of (by omega) (by omega), u8_of (by omega) (by omega), u8_of (by omega) (by omega)]
        omega
/-- The least and the greatest value that the bytes can become. -/
def lohi (h : Int) (l : List UInt8) (m : Nat) : Nat → Int × Int
  | 0 => ((bat l 0 : Int) - h, (bat l 0 : Int) - h)
  | k + 1 => if k + 1 < m then (64 * (lohi h l m k).1 + (bat l (k + 1) : Int) - 128, 64 * (lohi h l m k).2 + (bat l (k + 1) : Int) - 128) else (64 * (lohi h l m k).1, 64 * (lohi h l m k).2 + 63)
set_option maxRecDepth 100000 in
set_option maxHeartbeats 4000000 in
theorem part_iff {l : List UInt8} {m : Nat} (hm : 1 ≤ m) (hn : m < longB (bat l 0)) (hb : ∀ i, 1 ≤ i → i < m → 128 ≤ bat l i ∧ bat l i ≤ 191) {lo hi : Int}
    (hlo : lo = max (lohi (headZ (longB (bat l 0))) l m (longB (bat l 0) - 1)).1 (leastZ (longB (bat l 0)))) (hhi : hi = min (lohi (headZ (longB (bat l 0))) l m (longB (bat l 0) - 1)).2 1114111) :
    (lo ≤ hi ∧ (lo < 55296 ∨ 57343 < hi)) ↔ PartU m (bat l 0) (bat l 1) (bat l 2) := by
  have hc := cls (bat l 0) (bat_lt l 0)
  have g1 := bat_lt l 1
  have g2 := bat_lt l 2
  unfold PartU
  have hb1 := hb 1 (by omega)
  have hb2 := hb 2 (by omega)
  clear hb
  have h4 : longB (bat l 0) = 2 ∨ longB (bat l 0) = 3 ∨ longB (bat l 0) = 4 := by have := long_le (bat l 0); omega
  rcases h4 with e | e | e
  all_goals rw [e] at hlo hhi hn ⊢
  · have hm1 : m = 1 := by omega
    subst hm1
    simp only [lohi, headZ, leastZ, Nat.reduceSub, Nat.reduceAdd, Nat.reduceLT, if_false, if_true, Nat.reduceEqDiff] at hlo hhi
    generalize bat l 0 = b0 at *
    generalize bat l 1 = b1 at *
    generalize bat l 2 = b2 at *
    unfold Cls at hc
    omega
  · have hm1 : m = 1 ∨ m = 2 := by omega
    rcases hm1 with rfl | rfl
    all_goals
      simp only [lohi, headZ, leastZ, Nat.reduceSub, Nat.reduceAdd, Nat.reduceLT, if_false, if_true, Nat.reduceEqDiff] at hlo hhi
      generalize bat l 0 = b0 at *
      generalize bat l 1 = b1 at *
      generalize bat l 2 = b2 at *
      unfold Cls at hc
      omega
  · have hm1 : m = 1 ∨ m = 2 ∨ m = 3 := by omega
    rcases hm1 with rfl | rfl | rfl
    all_goals
      simp only [lohi, headZ, leastZ, Nat.reduceSub, Nat.reduceAdd, Nat.reduceLT, if_false, if_true, Nat.reduceEqDiff] at hlo hhi
      generalize bat l 0 = b0 at *
      generalize bat l 1 = b1 at *
      generalize bat l 2 = b2 at *
      unfold Cls at hc
      omega
theorem part_out {l : List UInt8} {m i : Nat} (hi : 1 ≤ i) (hm : i < m) (h : ¬ (128 ≤ bat l i ∧ bat l i ≤ 191)) : ¬ PartU m (bat l 0) (bat l 1) (bat l 2) := by
  rintro ⟨a, b, c⟩
  have hl := long_le (bat l 0)
  have h3 : i = 1 ∨ i = 2 := by omega
  have hc := cls (bat l 0) (bat_lt l 0)
  unfold Cls at hc
  rcases h3 with rfl | rfl
  · have := b (by omega)
    omega
  · exact h (c (by omega))
/-- What four digits without a second half are. -/
theorem rF_first {l : List UInt8} {v : Int} (h : rF false 4 0 l 0 = .ok v) : 0 ≤ v ∧ v ≤ 65535 ∧ ¬ (56320 ≤ v ∧ v ≤ 57343) := by
  match l with
  | [] => simp [rF] at h
  | [a] => rw [rF] at h; (repeat' split at h) <;> first | (cases h; done) | simp [rF] at h
  | [a, b] => rw [rF] at h; simp only [rF] at h; (repeat' split at h) <;> cases h
  | [a, b, c] => simp only [rF] at h; (repeat' split at h) <;> cases h
  | a :: b :: c :: d :: t =>
    have ha := hexV_le a
    have hb := hexV_le b
    have hc := hexV_le c
    have hd := hexV_le d
    simp only [rF] at h
    generalize hexV a = x at *
    generalize hexV b = y at *
    generalize hexV c = z at *
    generalize hexV d = u at *
    (repeat' split at h) <;> first | (cases h; done) | (cases h; simp at *; omega)
theorem rF_second {l : List UInt8} {v : Int} (h : rF true 4 0 l 0 = .ok v) : 56320 ≤ v ∧ v ≤ 57343 := by
  match l with
  | [] => simp [rF] at h
  | [a] => simp only [rF] at h; (repeat' split at h) <;> cases h
  | [a, b] => simp only [rF] at h; (repeat' split at h) <;> cases h
  | [a, b, c] => simp only [rF] at h; (repeat' split at h) <;> cases h
  | a :: b :: c :: d :: t =>
    have ha := hexV_le a
    have hb := hexV_le b
    have hc := hexV_le c
    have hd := hexV_le d
    simp only [rF] at h
    generalize hexV a = x at *
    generalize hexV b = y at *
    generalize hexV c = z at *
    generalize hexV d = u at *
    (repeat' split at h) <;> first | (cases h; done) | (cases h; simp at *; omega)
theorem putL_of {n : Int} (h : 0 ≤ n ∧ n ≤ 1114111 ∧ (n < 55296 ∨ 57343 < n)) : putL n = Lib.encodeRune n := by
  unfold putL
  rw [if_pos ((scal_iff n).2 h)]
/-- An item's bytes are no more than its text. -/
theorem rEsc_len {l : List UInt8} {b : List UInt8} {n : Nat} (h : rEsc l = .ok (b, n)) : b.length ≤ n + 1 ∧ n ≤ l.length ∧ 1 ≤ n := by
  obtain ⟨g1, g2, -⟩ := (esc_run l { uq0 with st := 2 } 0 rfl rfl).2 b n h
  refine ⟨?_, g1, g2⟩
  have henc : ∀ z, (Lib.encodeRune z).length ≤ 4 := fun z => by unfold Lib.encodeRune; rw [List.length_map]; exact (Lib.encodeRuneZ_length z).2
  unfold rEsc at h
  (repeat' split at h) <;> first | (cases h; done) | (cases h; first | (simp; done) | (have := henc ‹_›; omega) | skip)
  all_goals first | (exact Nat.le_trans (henc _) (by omega)) | simp
end Go.Proofs.YtccmhhmdenfecaaGreatDoor
