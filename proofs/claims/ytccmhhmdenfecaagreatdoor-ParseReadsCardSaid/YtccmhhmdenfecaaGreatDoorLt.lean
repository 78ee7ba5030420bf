/- A number, read in stages: the plain form; that it is the model's. No program here. -/
import Derived.Test.YtccmhhmdenfecaaGreatDoorLl
import Derived.Test.YtccmhhmdenfecaaGreatDoorLp
namespace Go.Proofs.YtccmhhmdenfecaaGreatDoor
set_option linter.unusedVariables false
set_option linter.unusedSimpArgs false
def DD : List UInt8 := [48, 49, 50, 51, 52, 53, 54, 55, 56, 57]
def numS3 (neg : Bool) (l : List UInt8) (a k1 k2 : Nat) (x : Bool) (k : Nat) : TR := if x = true then wrongT a 101 else intT neg (valU ((l.drop k1).take (k2 - k1))) a k
def numS2 (neg : Bool) (l : List UInt8) (a k1 k2 : Nat) (pt : Bool) (k : Nat) : TR :=
  if oneB l [101, 69] k = true then (if overN l DD (k + 1 + oneN l [43, 45] (k + 1)) = 0 then wrongT ((k + 1 + oneN l [43, 45] (k + 1) : Nat) : Int) 100 else wrongT a 101)
  else numS3 neg l a k1 k2 pt k
def numS1 (neg : Bool) (l : List UInt8) (a k1 k2 : Nat) : TR :=
  if oneB l [46] k2 = true then (if overN l DD (k2 + 1) = 0 then wrongT ((k2 + 1 : Nat) : Int) 100 else numS2 neg l a k1 k2 true (k2 + 1 + overN l DD (k2 + 1))) else numS2 neg l a k1 k2 false k2
def numS0 (neg : Bool) (l : List UInt8) (a k1 : Nat) : TR :=
  if oneB l [48] k1 = true then numS1 neg l a k1 (k1 + 1) else if overN l DD k1 = 0 then wrongT (k1 : Int) 100 else numS1 neg l a k1 (k1 + overN l DD k1)
def numS (l : List UInt8) (a : Nat) : TR := numS0 (oneB l [45] a) l a (a + oneN l [45] a)
theorem dig_contains (c : UInt8) : DD.contains c = digB c := by
  have hall : ∀ n : Fin 256, DD.contains (UInt8.ofNat n.val) = digB (UInt8.ofNat n.val) := by decide +kernel
  have := hall ⟨c.toNat, c.toNat_lt⟩
  simpa using this
theorem over_digs (l : List UInt8) (k : Nat) : overN l DD k = digs (l.drop k) := by
  unfold overN digs
  congr 1
  congr 1
  funext c
  exact dig_contains c
theorem one_head (l cs : List UInt8) (k : Nat) : oneB l cs k = headB (cs.contains ·) (l.drop k) := by
  unfold oneB headB
  rw [List.head?_drop]
  by_cases h : k < l.length
  · rw [List.getElem?_eq_getElem h, List.getD_eq_getElem?_getD, List.getElem?_eq_getElem h]
    simp [h]
  · rw [List.getElem?_eq_none (by omega)]
    simp [h]
theorem one_eq (l : List UInt8) (c : UInt8) (k : Nat) : oneB l [c] k = headB (· == c) (l.drop k) := by
  rw [one_head]
  congr 1
  funext x
  rw [Bool.eq_iff_iff]
  simp
theorem two_eq (l : List UInt8) (c d : UInt8) (k : Nat) : oneB l [c, d] k = headB (fun x => x == c || x == d) (l.drop k) := by
  rw [one_head]
  congr 1
  funext x
  rw [Bool.eq_iff_iff]
  simp
theorem one_lt {l cs : List UInt8} {k : Nat} (h : oneB l cs k = true) : k < l.length := by
  unfold oneB at h
  simp only [Bool.and_eq_true, decide_eq_true_eq] at h
  exact h.1
theorem oneN_le (l cs : List UInt8) (k : Nat) (hk : k ≤ l.length) : k + oneN l cs k ≤ l.length := by
  unfold oneN
  split
  · rename_i h; have := one_lt h; omega
  · omega
theorem numE_eq (neg : Bool) (l : List UInt8) (a k1 k2 : Nat) (pt : Bool) (k : Nat) (hk : a ≤ k) : numS2 neg l a k1 k2 pt k = numE neg (valU ((l.drop k1).take (k2 - k1))) pt (l.drop k) (k - a) a := by
  unfold numS2 numE numS3
  rw [two_eq l 101 69]
  change (if headB expB (l.drop k) = true then _ else _) = _
  by_cases h : headB expB (l.drop k) = true
  · rw [if_pos h, if_pos h]
    have e1 : (l.drop k).drop 1 = l.drop (k + 1) := by rw [List.drop_drop]
    have e2 : expN (l.drop (k + 1)) = oneN l [43, 45] (k + 1) := by
      unfold expN oneN
      rw [two_eq l 43 45]
      rfl
    rw [e1, e2, List.drop_drop, ← over_digs]
    by_cases h2 : overN l DD (k + 1 + oneN l [43, 45] (k + 1)) = 0
    · rw [if_pos h2, if_pos h2]
      congr 1
      omega
    · rw [if_neg h2, if_neg h2]
  · rw [if_neg h, if_neg h, show (a : Int) + ((k - a : Nat) : Int) = (k : Int) by omega]
theorem numF_eq (neg : Bool) (l : List UInt8) (a k1 k2 : Nat) (hk : a ≤ k2) : numS1 neg l a k1 k2 = numF neg (valU ((l.drop k1).take (k2 - k1))) (l.drop k2) (k2 - a) a := by
  unfold numS1 numF
  rw [one_eq l 46]
  by_cases h : headB (· == 46) (l.drop k2) = true
  · rw [if_pos h, if_pos h]
    have e1 : (l.drop k2).drop 1 = l.drop (k2 + 1) := by rw [List.drop_drop]
    rw [e1, ← over_digs, List.drop_drop]
    by_cases h2 : overN l DD (k2 + 1) = 0
    · rw [if_pos h2, if_pos h2]
      congr 1
      omega
    · rw [if_neg h2, if_neg h2, numE_eq _ _ _ _ _ _ _ (by omega)]
      rw [show k2 + 1 + overN l DD (k2 + 1) - a = k2 - a + 1 + overN l DD (k2 + 1) by omega]
  · rw [if_neg h, if_neg h, numE_eq _ _ _ _ _ _ _ hk]
theorem numS_eq (l : List UInt8) (a : Nat) : numS l a = numM (l.drop a) a := by
  unfold numS numS0 numM
  rw [one_eq l 45, one_eq l 48]
  have e0 : oneN l [45] a = signN (l.drop a) := by
    unfold oneN signN
    rw [one_eq l 45]
  rw [e0]
  generalize hs : signN (l.drop a) = s
  rw [List.drop_drop]
  have ew : wholeN (l.drop (a + s)) = if headB (· == 48) (l.drop (a + s)) = true then 1 else overN l DD (a + s) := by
    unfold wholeN
    rw [over_digs]
  by_cases h : headB (· == 48) (l.drop (a + s)) = true
  · rw [if_pos h] at ew ⊢
    rw [ew, if_neg (by decide), numF_eq _ _ _ _ _ (by omega), List.drop_drop]
    rw [show a + s + 1 - (a + s) = 1 by omega, show a + s + 1 - a = s + 1 by omega]
  · rw [if_neg h] at ew ⊢
    rw [ew]
    by_cases h2 : overN l DD (a + s) = 0
    · rw [if_pos h2, if_pos h2]
      congr 1
    · rw [if_neg h2, if_neg h2, numF_eq _ _ _ _ _ (by omega), List.drop_drop]
      rw [show a + s + overN l DD (a + s) - (a + s) = overN l DD (a + s) by omega, show a + s + overN l DD (a + s) - a = s + overN l DD (a + s) by omega]
/-- ParseUint at digits. -/
theorem foldl_ge (l : List UInt8) : ∀ acc : Nat, acc ≤ l.foldl (fun a c => 10 * a + (c.toNat - 48)) acc := by
  induction l with
  | nil => exact fun _ => Nat.le_refl _
  | cons c l ih => intro acc; rw [List.foldl_cons]; have := ih (10 * acc + (c.toNat - 48)); omega
theorem parseM_digs : ∀ (l : List UInt8) (acc : Nat), (∀ c ∈ l, digB c = true) → acc < 2 ^ 64 → Lib.parseUintM (2 ^ 64 - 1) acc l = if 2 ^ 64 ≤ l.foldl (fun a c => 10 * a + (c.toNat - 48)) acc then .range else .ok (l.foldl (fun a c => 10 * a + (c.toNat - 48)) acc)
  | [], acc, _, h => by rw [Lib.parseUintM, List.foldl_nil, if_neg (by omega)]
  | c :: l, acc, hd, h => by
    have hc := hd c (by simp)
    unfold digB at hc
    simp only [Bool.and_eq_true, decide_eq_true_eq] at hc
    rw [Lib.parseUintM, if_pos hc, List.foldl_cons]
    have hge := foldl_ge l (10 * acc + (c.toNat - 48))
    rw [show acc * 10 = 10 * acc by omega]
    by_cases h1 : 1844674407370955162 ≤ acc
    · rw [if_pos h1, if_pos (by omega)]
    · rw [if_neg h1]
      by_cases h2 : 2 ^ 64 - 1 < 10 * acc + (c.toNat - 48)
      · rw [if_pos h2, if_pos (by omega)]
      · rw [if_neg h2]
        exact parseM_digs l _ (fun c hc => hd c (by simp [hc])) (by omega)
theorem parse_digs {l : List UInt8} (hd : ∀ c ∈ l, digB c = true) (hn : l ≠ []) : Lib.parseUintB 64 l = if 2 ^ 64 ≤ valU l then .range else .ok (valU l) := by
  unfold Lib.parseUintB valU
  rw [if_neg hn]
  exact parseM_digs l 0 hd (by decide)
end Go.Proofs.YtccmhhmdenfecaaGreatDoor
