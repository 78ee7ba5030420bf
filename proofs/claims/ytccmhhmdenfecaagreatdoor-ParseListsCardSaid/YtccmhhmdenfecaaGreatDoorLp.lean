/- Plain laws of lex: an error's offset is the least; a token is determined by its own bytes. No program here. -/
import Derived.Test.YtccmhhmdenfecaaGreatDoorTv
namespace Go.Proofs.YtccmhhmdenfecaaGreatDoor
set_option linter.unusedVariables false
set_option linter.unusedSimpArgs false
/-- r is empty, or begins as l goes on at k. -/
def HeadAt (r l : List UInt8) (k : Nat) : Prop := r = [] ∨ ∃ c b, r = c :: b ∧ l[k]? = some c
theorem HeadAt.nil (l : List UInt8) (k : Nat) : HeadAt [] l k := .inl rfl
theorem HeadAt.drop {r l : List UInt8} {j k : Nat} (h : HeadAt r l (j + k)) : HeadAt r (l.drop j) k := by
  rcases h with h | ⟨c, b, h, hc⟩
  · exact .inl h
  · exact .inr ⟨c, b, h, by rw [List.getElem?_drop]; exact hc⟩
theorem HeadAt.headB {r l : List UInt8} {k : Nat} {p : UInt8 → Bool} (h : HeadAt r l k) (hn : headB p (l.drop k) = false) : headB p r = false := by
  rcases h with rfl | ⟨c, b, rfl, hc⟩
  · rfl
  · unfold Go.Proofs.YtccmhhmdenfecaaGreatDoor.headB at hn ⊢
    rw [List.head?_drop, hc] at hn
    simpa using hn
theorem digs_zero {l : List UInt8} : digs l = 0 ↔ headB digB l = false := by
  cases l with
  | nil => simp [digs, headB]
  | cons x t =>
    unfold digs headB
    rw [List.takeWhile_cons]
    by_cases h : digB x = true
    · simp [h]
    · simp [h]
theorem digs_le (l : List UInt8) : digs l ≤ l.length := by
  unfold digs; exact (List.takeWhile_sublist _).length_le
theorem digs_all : ∀ (l : List UInt8), (∀ c ∈ l.take (digs l), digB c = true) ∧ headB digB (l.drop (digs l)) = false
  | [] => by simp [digs, headB]
  | x :: t => by
    by_cases h : digB x = true
    · have e : digs (x :: t) = digs t + 1 := by simp [digs, h]
      rw [e, List.take_succ_cons, List.drop_succ_cons]
      obtain ⟨h1, h2⟩ := digs_all t
      refine ⟨fun c hc => ?_, h2⟩
      rcases List.mem_cons.1 hc with rfl | hc
      · exact h
      · exact h1 c hc
    · have e : digs (x :: t) = 0 := by simp [digs, h]
      rw [e]
      exact ⟨fun c hc => by simp at hc, by simpa [headB] using h⟩
theorem digs_app : ∀ (x y : List UInt8), (∀ c ∈ x, digB c = true) → headB digB y = false → digs (x ++ y) = x.length
  | [], y, _, h => by rw [List.nil_append]; exact digs_zero.2 h
  | c :: x, y, hx, h => by
    have := digs_app x y (fun c hc => hx c (by simp [hc])) h
    have hc := hx c (by simp)
    unfold digs at this ⊢
    rw [List.cons_append, List.takeWhile_cons, hc]
    simp [this]
theorem head_app {p : UInt8 → Bool} {x y : List UInt8} (h : x ≠ []) : headB p (x ++ y) = headB p x := by
  cases x with
  | nil => exact absurd rfl h
  | cons c x => rfl
theorem head_take {p : UInt8 → Bool} {x : List UInt8} {k : Nat} (r : List UInt8) (h : 1 ≤ k) (hx : x ≠ []) : headB p (x.take k ++ r) = headB p x := by
  cases x with
  | nil => exact absurd rfl hx
  | cons c x =>
    obtain ⟨k, rfl⟩ : ∃ j, k = j + 1 := ⟨k - 1, by omega⟩
    rfl
/-- x is the whole part of a number before y. -/
def WholeOk (x y : List UInt8) : Prop := x = [48] ∨ ((∀ c ∈ x, digB c = true) ∧ headB (· == 48) x = false ∧ x ≠ [] ∧ headB digB y = false)
theorem WholeOk.ne {x y : List UInt8} (h : WholeOk x y) : x ≠ [] := by
  rcases h with rfl | h
  · simp
  · exact h.2.2.1
theorem WholeOk.len {x y : List UInt8} (h : WholeOk x y) : wholeN (x ++ y) = x.length := by
  rcases h with rfl | ⟨h1, h2, h3, h4⟩
  · rfl
  · unfold wholeN
    rw [head_app h3, h2]
    simp only [Bool.false_eq_true, if_false]
    exact digs_app x y h1 h4
theorem WholeOk.to {x y y' : List UInt8} (h : WholeOk x y) (h' : headB digB y = false → headB digB y' = false) : WholeOk x y' := by
  rcases h with h | ⟨h1, h2, h3, h4⟩
  · exact .inl h
  · exact .inr ⟨h1, h2, h3, h' h4⟩
theorem WholeOk.dig {x y : List UInt8} (h : WholeOk x y) : headB digB x = true := by
  rcases h with rfl | ⟨h1, h2, h3, h4⟩
  · decide
  · cases x with
    | nil => exact absurd rfl h3
    | cons c x => simpa [headB] using h1 c (by simp)
theorem whole_split {l : List UInt8} (h : wholeN l ≠ 0) : WholeOk (l.take (wholeN l)) (l.drop (wholeN l)) ∧ wholeN l ≤ l.length := by
  unfold wholeN at h ⊢
  by_cases h0 : headB (· == 48) l = true
  · rw [if_pos h0]
    cases l with
    | nil => cases h0
    | cons c t =>
      have : c = 48 := by simpa [headB] using h0
      subst this
      exact ⟨.inl (by simp), by simp⟩
  · rw [if_neg h0] at h ⊢
    obtain ⟨h1, h2⟩ := digs_all l
    have hl := digs_le l
    refine ⟨.inr ⟨h1, ?_, ?_, h2⟩, hl⟩
    · cases l with
      | nil => rfl
      | cons c t =>
        obtain ⟨k, hk⟩ : ∃ j, digs (c :: t) = j + 1 := ⟨digs (c :: t) - 1, by omega⟩
        rw [hk, List.take_succ_cons]
        simpa [headB] using h0
    · intro he
      have := congrArg List.length he
      rw [List.length_take, List.length_nil] at this
      omega
theorem sign_is (l : List UInt8) : l.take (signN l) = (if headB (· == 45) l then [45] else []) ∧ signN l = (if headB (· == 45) l then [45] else [] : List UInt8).length ∧ signN l ≤ l.length := by
  unfold signN
  by_cases h : headB (· == 45) l = true
  · cases l with
    | nil => cases h
    | cons c t =>
      have : c = 45 := by simpa [headB] using h
      subst this
      simp [headB]
  · simp [h]
/-- A number by its parts. -/
theorem num_app (neg : Bool) {x y : List UInt8} (a : Int) (h : WholeOk x y) : numM ((if neg then [45] else []) ++ (x ++ y)) a = numF neg (valU x) y ((if neg then [45] else [] : List UInt8).length + x.length) a := by
  have hl := h.len
  have hne := h.ne
  have hd := h.dig
  have hx0 : x.length ≠ 0 := fun e => hne (List.eq_nil_of_length_eq_zero e)
  have h45 : headB (· == 45) (x ++ y) = false := by
    rw [head_app hne]
    cases x with
    | nil => exact absurd rfl hne
    | cons c x =>
      simp only [headB, List.head?_cons, Option.any_some, digB, Bool.and_eq_true, decide_eq_true_eq] at hd
      simp only [headB, List.head?_cons, Option.any_some, beq_eq_false_iff_ne]
      rintro rfl
      revert hd; decide
  cases neg with
  | true =>
    have e1 : signN (45 :: (x ++ y)) = 1 := rfl
    have e2 : headB (· == 45) (45 :: (x ++ y)) = true := rfl
    simp only [if_true, List.cons_append, List.nil_append]
    unfold numM
    rw [e1, e2]
    simp only [List.drop_succ_cons, List.drop_zero, hl]
    rw [if_neg hx0, List.take_left, List.drop_left]
    rfl
  | false =>
    have e1 : signN (x ++ y) = 0 := by unfold signN; rw [h45]; rfl
    simp only [Bool.false_eq_true, if_false, List.nil_append]
    unfold numM
    rw [e1, h45]
    simp only [List.drop_zero, hl]
    rw [if_neg hx0, List.take_left, List.drop_left]
    rfl
theorem num_parts (l : List UInt8) (h : wholeN (l.drop (signN l)) ≠ 0) : ∃ (neg : Bool) (x y : List UInt8), l = (if neg then [45] else [] : List UInt8) ++ (x ++ y) ∧ WholeOk x y := by
  obtain ⟨h1, h2⟩ := whole_split h
  refine ⟨headB (· == 45) l, _, _, ?_, h1⟩
  rw [List.take_append_drop, ← (sign_is l).1, List.take_append_drop]
theorem intT_no (neg : Bool) (u : Nat) (a b : Int) : (intT neg u a b).2 ≠ 100 := by
  unfold intT wrongT
  (repeat' split) <;> simp
theorem wrongT_e {a e : Int} : (wrongT a e).2 = e := rfl
theorem numE_place {neg : Bool} {u : Nat} {pt : Bool} {y : List UInt8} {z : Nat} {a : Int} (h : (numE neg u pt y z a).2 = 100) :
    ∃ j : Nat, 1 ≤ j ∧ j ≤ y.length ∧ numE neg u pt y z a = wrongT (a + z + j) 100 ∧ ∀ r, HeadAt r y j → numE neg u pt (y.take j ++ r) z a = wrongT (a + z + j) 100 := by
  unfold numE at h ⊢
  by_cases he : headB expB y = true
  · rw [if_pos he] at h ⊢
    have hy : y ≠ [] := by rintro rfl; cases he
    by_cases hd : digs ((y.drop 1).drop (expN (y.drop 1))) = 0
    · rw [if_pos hd]
      have hen : expN (y.drop 1) ≤ (y.drop 1).length := by
        unfold expN
        split
        · rename_i h1
          cases hh : y.drop 1 with
          | nil => rw [hh] at h1; cases h1
          | cons c t => simp
        · omega
      have hl1 : (y.drop 1).length = y.length - 1 := List.length_drop
      have hyl : y.length ≠ 0 := fun e => hy (List.eq_nil_of_length_eq_zero e)
      refine ⟨1 + expN (y.drop 1), by omega, by omega, by congr 1; push_cast; omega, fun r hr => ?_⟩
      rw [head_take r (by omega) hy, if_pos he]
      have e1 : (y.take (1 + expN (y.drop 1)) ++ r).drop 1 = (y.drop 1).take (expN (y.drop 1)) ++ r := by
        cases y with
        | nil => exact absurd rfl hy
        | cons c t => rw [Nat.add_comm 1, List.take_succ_cons]; rfl
      have hr1 : HeadAt r (y.drop 1) (expN (y.drop 1)) := hr.drop
      have hrd : headB digB r = false := hr1.headB (digs_zero.1 hd)
      have e2 : expN ((y.drop 1).take (expN (y.drop 1)) ++ r) = expN (y.drop 1) := by
        generalize y.drop 1 = v at hr1 ⊢
        unfold expN at hr1 ⊢
        by_cases hp : headB plusB v = true
        · simp only [hp, if_true] at hr1 ⊢
          rw [head_take r (by omega) (by rintro rfl; cases hp), hp]; rfl
        · have hp' : headB plusB v = false := by simpa using hp
          simp only [hp', Bool.false_eq_true, if_false] at hr1 ⊢
          rw [List.take_zero, List.nil_append, hr1.headB (p := plusB) (by simpa using hp')]; rfl
      have e3 : ((y.drop 1).take (expN (y.drop 1)) ++ r).drop (expN (y.drop 1)) = r := by
        have : ((y.drop 1).take (expN (y.drop 1))).length = expN (y.drop 1) := by rw [List.length_take]; omega
        rw [List.drop_append_of_le_length (by omega), List.drop_of_length_le (by omega)]; rfl
      rw [e1, e2, e3, if_pos (digs_zero.2 hrd)]
      congr 1; push_cast; omega
    · rw [if_neg hd] at h; cases h
  · rw [if_neg he] at h
    split at h
    · cases h
    · exact absurd h (intT_no _ _ _ _)
theorem numF_place {neg : Bool} {u : Nat} {y : List UInt8} {z : Nat} {a : Int} (h : (numF neg u y z a).2 = 100) :
    ∃ j : Nat, 1 ≤ j ∧ j ≤ y.length ∧ numF neg u y z a = wrongT (a + z + j) 100 ∧ ∀ r, HeadAt r y j → numF neg u (y.take j ++ r) z a = wrongT (a + z + j) 100 := by
  unfold numF at h ⊢
  by_cases hp : headB (· == 46) y = true
  · rw [if_pos hp] at h ⊢
    have hy : y ≠ [] := by rintro rfl; cases hp
    have hyl : y.length ≠ 0 := fun e => hy (List.eq_nil_of_length_eq_zero e)
    have hl1 : (y.drop 1).length = y.length - 1 := List.length_drop
    by_cases hd : digs (y.drop 1) = 0
    · rw [if_pos hd]
      refine ⟨1, by omega, by omega, rfl, fun r hr => ?_⟩
      rw [head_take r (by omega) hy, if_pos hp]
      have e1 : (y.take 1 ++ r).drop 1 = r := by
        cases y with
        | nil => exact absurd rfl hy
        | cons c t => rfl
      have hrd : headB digB r = false := hr.headB (digs_zero.1 hd)
      rw [e1, if_pos (digs_zero.2 hrd)]
      rfl
    · rw [if_neg hd] at h ⊢
      have hdl := digs_le (y.drop 1)
      obtain ⟨da, dn⟩ := digs_all (y.drop 1)
      obtain ⟨j, j1, j2, j3, j4⟩ := numE_place h
      have hl2 : ((y.drop 1).drop (digs (y.drop 1))).length = (y.drop 1).length - digs (y.drop 1) := List.length_drop
      refine ⟨1 + digs (y.drop 1) + j, by omega, by omega, by rw [j3]; congr 1; push_cast; omega, fun r hr => ?_⟩
      rw [head_take r (by omega) hy, if_pos hp]
      have hr2 : HeadAt r ((y.drop 1).drop (digs (y.drop 1))) j := by
        refine HeadAt.drop (HeadAt.drop ?_)
        rw [← Nat.add_assoc]; exact hr
      have e1 : (y.take (1 + digs (y.drop 1) + j) ++ r).drop 1 = (y.drop 1).take (digs (y.drop 1)) ++ (((y.drop 1).drop (digs (y.drop 1))).take j ++ r) := by
        rw [← List.append_assoc, ← List.take_add]
        cases y with
        | nil => exact absurd rfl hy
        | cons c t => rw [Nat.add_assoc, Nat.add_comm 1, List.take_succ_cons]; rfl
      have hln : ((y.drop 1).take (digs (y.drop 1))).length = digs (y.drop 1) := by rw [List.length_take]; omega
      have hne2 : (y.drop 1).drop (digs (y.drop 1)) ≠ [] := fun e => by rw [e] at j2; simp at j2; omega
      have e2 : digs ((y.drop 1).take (digs (y.drop 1)) ++ (((y.drop 1).drop (digs (y.drop 1))).take j ++ r)) = digs (y.drop 1) := by
        rw [digs_app _ _ da (by rw [head_take r j1 hne2]; exact dn), hln]
      rw [e1, e2, if_neg hd, List.drop_append_of_le_length (by omega), List.drop_of_length_le (by omega), List.nil_append, j4 r hr2]
      congr 1; push_cast; omega
  · rw [if_neg hp] at h ⊢
    obtain ⟨j, j1, j2, j3, j4⟩ := numE_place h
    refine ⟨j, j1, j2, j3, fun r hr => ?_⟩
    have hy : y ≠ [] := by rintro rfl; simp at j2; omega
    rw [head_take r j1 hy, if_neg hp]
    exact j4 r hr
/-- The places of a number's errors. -/
theorem num_place {l : List UInt8} {a : Int} (h : (numM l a).2 = 100) : ∃ j : Nat, j ≤ l.length ∧ numM l a = wrongT (a + j) 100 ∧ (headB digB l = true ∨ headB (· == 45) l = true → 1 ≤ j) ∧ ∀ r, HeadAt r l j → numM (l.take j ++ r) a = wrongT (a + j) 100 := by
  by_cases hw : wholeN (l.drop (signN l)) = 0
  · have e0 : numM l a = wrongT (a + signN l) 100 := by unfold numM; rw [if_pos hw]
    obtain ⟨s1, s2, s3⟩ := sign_is l
    have hw' : headB (· == 48) (l.drop (signN l)) = false ∧ headB digB (l.drop (signN l)) = false := by
      unfold wholeN at hw
      split at hw
      · cases hw
      · rename_i h0
        exact ⟨by simpa using h0, digs_zero.1 hw⟩
    refine ⟨signN l, s3, e0, fun hh => ?_, fun r hr => ?_⟩
    · unfold signN at hw' ⊢
      by_cases h45 : headB (· == 45) l = true
      · rw [if_pos h45]; exact Nat.le_refl _
      · rw [if_neg h45] at hw'
        rcases hh with hh | hh
        · rw [List.drop_zero, hh] at hw'; cases hw'.2
        · exact absurd hh h45
    · have r1 := hr.headB hw'.1
      have r2 := hr.headB hw'.2
      have hwr : wholeN r = 0 := by unfold wholeN; rw [r1]; exact digs_zero.2 r2
      rw [s1, s2]
      by_cases h45 : headB (· == 45) l = true
      · rw [if_pos h45]
        show numM (45 :: r) a = _
        unfold numM
        rw [show signN (45 :: r) = 1 from rfl]
        simp only [List.drop_succ_cons, List.drop_zero, hwr, if_true]
        rfl
      · rw [if_neg h45, List.nil_append]
        have hrs : signN r = 0 := by
          unfold signN
          have : signN l = 0 := by unfold signN; rw [if_neg h45]
          rw [this] at hr
          rw [hr.headB (p := (· == 45)) (by rw [List.drop_zero]; simpa using h45)]; rfl
        unfold numM
        rw [hrs]
        simp only [List.drop_zero, hwr, if_true]
        rfl
  · obtain ⟨neg, x, y, rfl, hx⟩ := num_parts l hw
    rw [num_app neg a hx] at h
    obtain ⟨j, j1, j2, j3, j4⟩ := numF_place h
    have hne := hx.ne
    generalize hsg : (if neg = true then [45] else [] : List UInt8) = sg at *
    refine ⟨sg.length + x.length + j, ?_, ?_, fun _ => by omega, fun r hr => ?_⟩
    · rw [List.length_append, List.length_append]; omega
    · subst hsg
      rw [num_app neg a hx, j3]; congr 1; push_cast; omega
    · have hy : y ≠ [] := by rintro rfl; simp at j2; omega
      have e : (sg ++ (x ++ y)).take (sg.length + x.length + j) ++ r = sg ++ (x ++ (y.take j ++ r)) := by
        rw [← List.append_assoc, ← List.length_append, List.take_length_add_append, List.append_assoc, List.append_assoc]
      rw [e]
      subst hsg
      have hr2 : HeadAt r y j := by
        rcases hr with h | ⟨c, b, h, hc⟩
        · exact .inl h
        · refine .inr ⟨c, b, h, ?_⟩
          rw [← List.append_assoc, ← List.length_append, List.getElem?_append_right (by omega)] at hc
          rw [← hc]; congr 1; omega
      rw [num_app neg a (hx.to fun h => by rw [head_take r j1 hy]; exact h), j4 r hr2]
      congr 1; push_cast; omega
theorem common_le : ∀ (w l : List UInt8), commonN w l ≤ w.length ∧ commonN w l ≤ l.length
  | [], l => by simp [commonN]
  | a :: w, [] => by simp [commonN]
  | a :: w, b :: l => by
    unfold commonN
    have := common_le w l
    split
    · simp only [List.length_cons]; omega
    · omega
theorem common_cut : ∀ (w l : List UInt8) (r : List UInt8), commonN w l < w.length → HeadAt r l (commonN w l) → commonN w (l.take (commonN w l) ++ r) = commonN w l
  | [], l, r, h, _ => by simp [commonN] at h
  | a :: w, [], r, h, hr => by
    rcases hr with rfl | ⟨c, b, rfl, hc⟩
    · simp [commonN]
    · simp at hc
  | a :: w, b :: l, r, h, hr => by
    by_cases hab : a = b
    · have e : commonN (a :: w) (b :: l) = commonN w l + 1 := by rw [commonN, if_pos hab]
      rw [e] at h hr ⊢
      rw [List.take_succ_cons, List.cons_append, commonN, if_pos hab, common_cut w l r (by simpa using h)]
      rcases hr with h | ⟨c, b', h, hc⟩
      · exact .inl h
      · exact .inr ⟨c, b', h, by simpa using hc⟩
    · have e : commonN (a :: w) (b :: l) = 0 := by rw [commonN, if_neg hab]
      rw [e] at hr ⊢
      rcases hr with rfl | ⟨c, b', rfl, hc⟩
      · rfl
      · simp at hc
        subst hc
        simp [commonN, hab]
/-- The reader of a literal: errors lie where it stopped, and what follows is not read. -/
theorem uq_place : ∀ (l : List UInt8) (Q : UQ) (i : Int), (uqRun Q i l).2.2.2 ≠ 0 → ∃ k : Nat, k ≤ l.length ∧ uqRun Q i l = ([], 0, i + k, (uqRun Q i l).2.2.2) ∧ uqRun Q i (l.take k) = ([], 0, i + k, 3) ∧
    ∀ c b, l[k]? = some c → uqRun Q i (l.take k ++ c :: b) = uqRun Q i l
  | [], Q, i, h => by
    refine ⟨0, Nat.le_refl _, by simp [uqRun], by simp [uqRun], fun c b hc => by simp at hc⟩
  | c :: l, Q, i, h => by
    rw [uqRun] at h ⊢
    cases ht : takeQ Q c with
    | error e =>
      rw [ht] at h
      refine ⟨0, Nat.zero_le _, by simp, by simp [uqRun], fun c' b hc => ?_⟩
      simp at hc
      subst hc
      rw [List.take_zero, List.nil_append, uqRun, ht]
    | ok Q' =>
      rw [ht] at h
      dsimp only at h ⊢
      by_cases h7 : Q'.st = 7
      · rw [if_pos h7] at h; exact absurd rfl h
      · rw [if_neg h7] at h ⊢
        obtain ⟨k, k1, k2, k3, k4⟩ := uq_place l Q' (i + 1) h
        refine ⟨k + 1, by simpa using k1, ?_, ?_, fun c' b hc => ?_⟩
        · rw [k2]
          congr 3
          push_cast; omega
        · rw [List.take_succ_cons, uqRun, ht]
          dsimp only
          rw [if_neg h7, k3]
          congr 3
          push_cast; omega
        · rw [List.take_succ_cons, List.cons_append, uqRun, ht]
          dsimp only
          rw [if_neg h7]
          exact k4 c' b (by simpa using hc)
theorem takeQ_ne {Q : UQ} {c : UInt8} {e : Int} (h : takeQ Q c = .error e) : e ≠ 0 := by
  unfold takeQ wantQ beginQ escapeQ digitQ plainQ at h
  (repeat' split at h) <;> first | (cases h; omega) | cases h
theorem uq_cover : ∀ (l : List UInt8) (Q : UQ) (i : Int), (uqRun Q i l).2.2.2 = 0 → ∃ k : Nat, 1 ≤ k ∧ k ≤ l.length ∧ (uqRun Q i l).2.1 = i + k ∧ uqRun Q i (l.take k) = uqRun Q i l
  | [], Q, i, h => by rw [uqRun] at h; cases h
  | c :: l, Q, i, h => by
    rw [uqRun] at h ⊢
    cases ht : takeQ Q c with
    | error e =>
      rw [ht] at h
      dsimp only at h
      refine ⟨1, Nat.le_refl _, by simp, ?_⟩
      exfalso
      revert h
      exact takeQ_ne ht
    | ok Q' =>
      rw [ht] at h
      dsimp only at h ⊢
      by_cases h7 : Q'.st = 7
      · rw [if_pos h7]
        refine ⟨1, Nat.le_refl _, by simp, rfl, ?_⟩
        rw [List.take_succ_cons, uqRun, ht]
        dsimp only
        rw [if_pos h7]
      · rw [if_neg h7] at h ⊢
        obtain ⟨k, k1, k2, k3, k4⟩ := uq_cover l Q' (i + 1) h
        refine ⟨k + 1, by omega, by simpa using k2, by rw [k3]; push_cast; omega, ?_⟩
        rw [List.take_succ_cons, uqRun, ht]
        dsimp only
        rw [if_neg h7]
        exact k4
theorem spell_first {c : UInt8} {w : List UInt8} {k : Int} (h : spellW c = some (w, k)) : ∃ v, w = c :: v ∧ 1 ≤ k ∧ k ≤ 9 := by
  unfold spellW at h
  (repeat' split at h) <;> first | (cases h; subst_vars; exact ⟨_, rfl, by omega, by omega⟩) | cases h
theorem numE_e {neg : Bool} {u : Nat} {pt : Bool} {y : List UInt8} {z : Nat} {a : Int} : (numE neg u pt y z a).2 = 0 ∨ (numE neg u pt y z a).2 = 100 ∨ (numE neg u pt y z a).2 = 101 := by
  unfold numE intT wrongT
  (repeat' split) <;> simp
theorem numM_e {l : List UInt8} {a : Int} : (numM l a).2 = 0 ∨ (numM l a).2 = 100 ∨ (numM l a).2 = 101 := by
  unfold numM numF
  split
  · exact .inr (.inl rfl)
  · split
    · split
      · exact .inr (.inl rfl)
      · exact numE_e
    · exact numE_e
/-- Where the errors of a token lie: before them all is well, and what follows is not read. -/
theorem tok_place {l : List UInt8} {a : Int} (h0 : (tokM l a).2 ≠ 0) (h1 : (tokM l a).2 ≠ 101) : ∃ k : Nat, k ≤ l.length ∧ tokM l a = wrongT (a + k) (tokM l a).2 ∧
    ((tokM (l.take k) a).2 = 0 ∨ (tokM (l.take k) a).1.from_ = a + k) ∧ ∀ c b, l[k]? = some c → tokM (l.take k ++ c :: b) a = tokM l a := by
  cases l with
  | nil => exact absurd rfl h0
  | cons c t =>
    cases hs : spellW c with
    | some wk =>
      obtain ⟨w, kd⟩ := wk
      have e : ∀ v, tokM (c :: v) a = wordM w kd (c :: v) a := fun v => by rw [tokM, hs]
      rw [e] at h0 ⊢
      obtain ⟨v, rfl, -, -⟩ := spell_first hs
      obtain ⟨c1, c2⟩ := common_le (c :: v) (c :: t)
      have hlt : commonN (c :: v) (c :: t) < (c :: v).length := by
        rcases Nat.lt_or_ge (commonN (c :: v) (c :: t)) (c :: v).length with h | h
        · exact h
        · unfold wordM at h0
          rw [if_pos (by omega)] at h0
          exact absurd rfl h0
      have e1 : wordM (c :: v) kd (c :: t) a = wrongT (a + commonN (c :: v) (c :: t)) 100 := by unfold wordM; rw [if_neg (by omega)]
      have hpos : ∃ j, commonN (c :: v) (c :: t) = j + 1 := ⟨commonN v t, by rw [commonN, if_pos rfl]⟩
      obtain ⟨j, hj⟩ := hpos
      have hcut := fun r hr => common_cut (c :: v) (c :: t) r hlt hr
      refine ⟨commonN (c :: v) (c :: t), c2, by rw [e1]; rfl, .inr ?_, fun c' b hc => ?_⟩
      · have := hcut [] (.inl rfl)
        rw [hj, List.take_succ_cons, List.append_nil] at this
        rw [hj, List.take_succ_cons, e]
        unfold wordM
        rw [this, if_neg (by omega)]
        rfl
      · have := hcut (c' :: b) (.inr ⟨c', b, rfl, hc⟩)
        rw [e1]
        rw [hj, List.take_succ_cons, List.cons_append] at this ⊢
        rw [e]
        unfold wordM
        rw [this, if_neg (by omega)]
    | none =>
      by_cases hq : c = 34
      · subst hq
        have e : ∀ v, tokM (34 :: v) a = litM (34 :: v) a := fun v => by rw [tokM, hs]; rfl
        rw [e] at h0 ⊢
        have hu : (uqRun uq0 0 (34 :: t)).2.2.2 ≠ 0 := by
          intro he
          unfold litM unqM at h0
          rw [if_neg (by simpa using he)] at h0
          exact h0 rfl
        obtain ⟨k, k1, k2, k3, k4⟩ := uq_place (34 :: t) uq0 0 hu
        have e1 : litM (34 :: t) a = wrongT (a + k) (uqRun uq0 0 (34 :: t)).2.2.2 := by
          unfold litM unqM
          rw [if_pos hu]
          congr 1
          rw [k2]
          dsimp only
          omega
        have hk0 : ∃ j, k = j + 1 := by
          cases k with
          | zero =>
            exfalso
            have h4 := k4 34 [] rfl
            rw [List.take_zero, List.nil_append] at h4
            have h5 := k2
            rw [← h4] at h5
            revert h5
            decide
          | succ j => exact ⟨j, rfl⟩
        obtain ⟨j, rfl⟩ := hk0
        refine ⟨j + 1, k1, by rw [e1]; rfl, .inr ?_, fun c' b hc => ?_⟩
        · rw [List.take_succ_cons] at k3 ⊢
          rw [e]
          unfold litM unqM
          rw [k3]
          rw [if_pos (show (3 : Int) ≠ 0 by decide)]
          show a + (0 + ((j + 1 : Nat) : Int)) = _
          omega
        · have h4 := k4 c' b hc
          rw [List.take_succ_cons, List.cons_append] at h4 ⊢
          rw [e]
          unfold litM unqM
          rw [h4]
      · by_cases hn : c = 45 ∨ digB c = true
        · have e : ∀ v, tokM (c :: v) a = numM (c :: v) a := fun v => by rw [tokM, hs]; simp only [hq, hn, if_false, if_true]
          rw [e] at h0 h1 ⊢
          have h100 : (numM (c :: t) a).2 = 100 := by
            rcases numM_e (l := c :: t) (a := a) with h | h | h
            · exact absurd h h0
            · exact h
            · exact absurd h h1
          obtain ⟨k, k1, k2, k3, k4⟩ := num_place h100
          have hk := k3 (by rcases hn with h | h; exact .inr (by subst h; rfl); exact .inl (by simpa [headB] using h))
          obtain ⟨j, rfl⟩ : ∃ j, k = j + 1 := ⟨k - 1, by omega⟩
          refine ⟨j + 1, k1, by rw [k2]; rfl, .inr ?_, fun c' b hc => ?_⟩
          · have := k4 [] (.inl rfl)
            rw [List.append_nil, List.take_succ_cons] at this
            rw [List.take_succ_cons, e, this]; rfl
          · have := k4 (c' :: b) (.inr ⟨c', b, rfl, hc⟩)
            rw [List.take_succ_cons, List.cons_append] at this ⊢
            rw [e, this, k2]
        · have e : ∀ v, tokM (c :: v) a = wrongT a 100 := fun v => by rw [tokM, hs]; simp only [hq, hn, if_false]
          rw [e]
          refine ⟨0, Nat.zero_le _, by rw [Int.natCast_zero, Int.add_zero]; rfl, .inl rfl, fun c' b hc => ?_⟩
          simp at hc
          subst hc
          rw [List.take_zero, List.nil_append, e]
theorem blanks_le (l : List UInt8) : blanksN l ≤ l.length := by
  unfold blanksN; exact (List.takeWhile_sublist _).length_le
theorem blanks_all : ∀ (l : List UInt8), (∀ c ∈ l.take (blanksN l), blankB c = true) ∧ headB blankB (l.drop (blanksN l)) = false
  | [] => by simp [blanksN, headB]
  | x :: t => by
    by_cases h : blankB x = true
    · have e : blanksN (x :: t) = blanksN t + 1 := by simp [blanksN, h]
      rw [e, List.take_succ_cons, List.drop_succ_cons]
      obtain ⟨h1, h2⟩ := blanks_all t
      refine ⟨fun c hc => ?_, h2⟩
      rcases List.mem_cons.1 hc with rfl | hc
      · exact h
      · exact h1 c hc
    · have e : blanksN (x :: t) = 0 := by simp [blanksN, h]
      rw [e]
      exact ⟨fun c hc => by simp at hc, by simpa [headB] using h⟩
theorem blanks_app : ∀ (x y : List UInt8), (∀ c ∈ x, blankB c = true) → headB blankB y = false → blanksN (x ++ y) = x.length
  | [], y, _, h => by
    rw [List.nil_append]
    cases y with
    | nil => rfl
    | cons c y =>
      have : blankB c = false := by simpa [headB] using h
      simp [blanksN, this]
  | c :: x, y, hx, h => by
    have := blanks_app x y (fun c hc => hx c (by simp [hc])) h
    have hc := hx c (by simp)
    unfold blanksN at this ⊢
    rw [List.cons_append, List.takeWhile_cons, hc]
    simp [this]
/-- Next after white space. -/
theorem next_app {x y : List UInt8} (hx : ∀ c ∈ x, blankB c = true) (hy : headB blankB y = false) : nextM (x ++ y) 0 = tokM y x.length := by
  unfold nextM
  rw [if_neg (by omega), show (0 : Int).toNat = 0 from rfl, List.drop_zero, blanks_app x y hx hy, List.drop_left, Int.zero_add]
theorem next_place {s : List UInt8} (h0 : (nextM s 0).2 ≠ 0) (h1 : (nextM s 0).2 ≠ 101) : ∃ k : Nat, k ≤ s.length ∧ nextM s 0 = wrongT k (nextM s 0).2 ∧
    ((nextM (s.take k) 0).2 = 0 ∨ (nextM (s.take k) 0).1.from_ = k) ∧ ∀ c b, s[k]? = some c → nextM (s.take k ++ c :: b) 0 = nextM s 0 := by
  obtain ⟨ha, hh⟩ := blanks_all s
  have hbl := blanks_le s
  obtain ⟨x, y, hs, hxl, hxa, hyh⟩ : ∃ x y : List UInt8, s = x ++ y ∧ x.length = blanksN s ∧ (∀ c ∈ x, blankB c = true) ∧ headB blankB y = false :=
    ⟨s.take (blanksN s), s.drop (blanksN s), (List.take_append_drop _ _).symm, by rw [List.length_take]; omega, ha, hh⟩
  clear ha hh hbl hxl
  subst hs
  rw [next_app hxa hyh] at h0 h1 ⊢
  obtain ⟨k, k1, k2, k3, k4⟩ := tok_place h0 h1
  have htk : ∀ r, (x ++ y).take (x.length + k) ++ r = x ++ (y.take k ++ r) := fun r => by rw [List.take_length_add_append, List.append_assoc]
  refine ⟨x.length + k, by rw [List.length_append]; omega, by rw [Int.natCast_add]; exact k2, ?_, fun c b hc => ?_⟩
  · have := htk []
    rw [List.append_nil, List.append_nil] at this
    rw [this, next_app hxa, Int.natCast_add]
    · exact k3
    · cases k with
      | zero => rfl
      | succ j => cases y with
        | nil => rfl
        | cons c y => exact hyh
  · rw [htk, next_app hxa]
    · refine k4 c b ?_
      rw [List.getElem?_append_right (by omega)] at hc
      rw [← hc]; congr 1; omega
    · cases k with
      | zero =>
        rw [List.getElem?_append_right (by omega), Nat.add_zero, Nat.sub_self] at hc
        cases y with
        | nil => simp at hc
        | cons d y =>
          simp at hc
          subst hc
          exact hyh
      | succ j => cases y with
        | nil => simp at k1
        | cons c y => exact hyh
end Go.Proofs.YtccmhhmdenfecaaGreatDoor
