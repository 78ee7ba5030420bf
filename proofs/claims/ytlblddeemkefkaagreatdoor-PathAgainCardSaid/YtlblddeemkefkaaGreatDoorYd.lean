/- The plain law of PathAgain: the steps that are parsed, shown again. -/
import Derived.Test.YtlblddeemkefkaaGreatDoorYc
import Derived.Test.YtlblddeemkefkaaGreatDoorYa
namespace Go.Proofs.YtlblddeemkefkaaGreatDoor
set_option linter.unusedVariables false
set_option linter.unusedSimpArgs false
open Go.RowKit Go.Shelf
theorem dec_step {u d : Nat} (hu : 0 < u) (hd : d < 10) : Lib.decDigits (10 * u + d) = Lib.decDigits u ++ [UInt8.ofNat (48 + d)] := by
  rw [Lib.decDigits, dif_neg (by omega)]
  rw [show (10 * u + d) / 10 = u by omega, show (10 * u + d) % 10 = d by omega]
theorem dig_of {c : UInt8} (h : digB c = true) : ∃ d, d < 10 ∧ c.toNat = 48 + d ∧ UInt8.ofNat (48 + d) = c := by
  unfold digB at h
  simp only [Bool.and_eq_true, decide_eq_true_eq] at h
  refine ⟨c.toNat - 48, by omega, by omega, ?_⟩
  rw [show 48 + (c.toNat - 48) = c.toNat by omega]
  simp
/-- Digits without a leading zero are the digits of their number. -/
theorem dec_of : ∀ (k : Nat) (D : List UInt8), D.length = k + 1 → (∀ c ∈ D, digB c = true) → (D.getD 0 0 = 48 → D.length ≤ 1) → Lib.decDigits (valU D) = D ∧ valU D < 10 ^ (k + 1)
  | 0, D, hl, hd, _ => by
    obtain ⟨c, rfl⟩ : ∃ c, D = [c] := by
      match D, hl with
      | [c], _ => exact ⟨c, rfl⟩
    obtain ⟨d, h1, h2, h3⟩ := dig_of (hd c (by simp))
    have hv : valU [c] = d := by
      have := valU_snoc [] c
      rw [List.nil_append] at this
      rw [this, h2]
      show 10 * 0 + _ = _
      omega
    rw [hv]
    refine ⟨?_, by simpa using h1⟩
    rw [Lib.decDigits, dif_pos h1, h3]
  | k + 1, D, hl, hd, h0 => by
    obtain ⟨D', c, rfl⟩ : ∃ D' c, D = D' ++ [c] := by
      rcases List.eq_nil_or_concat D with e | ⟨D', c, e⟩
      · rw [e] at hl; simp at hl
      · exact ⟨D', c, e.trans List.concat_eq_append⟩
    have hl' : D'.length = k + 1 := by rw [List.length_append] at hl; simpa using hl
    obtain ⟨d, h1, h2, h3⟩ := dig_of (hd c (by simp))
    have hne : (D' ++ [c]).getD 0 0 = D'.getD 0 0 := by
      match D', hl' with
      | x :: t, _ => rfl
    have h48 : D'.getD 0 0 ≠ 48 := by
      intro e
      have := h0 (hne.trans e)
      rw [List.length_append, List.length_cons, List.length_nil] at this
      omega
    obtain ⟨e1, e2⟩ := dec_of k D' hl' (fun x hx => hd x (by simp [hx])) (fun e => absurd e h48)
    have hpos : 0 < valU D' := by
      rcases Nat.eq_zero_or_pos (valU D') with e | e
      · rw [e, Lib.decDigits, dif_pos (by omega)] at e1
        rw [← e1] at h48
        exact absurd rfl h48
      · exact e
    rw [valU_snoc, h2, show 48 + d - 48 = d by omega, dec_step hpos h1, e1, h3]
    refine ⟨rfl, ?_⟩
    rw [Nat.pow_succ]
    omega
theorem mem_tw {p : UInt8 → Bool} {c : UInt8} : ∀ (l : List UInt8), c ∈ l.takeWhile p → p c = true
  | [], h => by cases h
  | x :: l, h => by
    rw [List.takeWhile_cons] at h
    by_cases hx : p x = true
    · rw [if_pos hx] at h
      rcases List.mem_cons.1 h with rfl | h
      · exact hx
      · exact mem_tw l h
    · rw [if_neg hx] at h; cases h
/-- A step's text that reads: the step shows, not longer. -/
theorem step_inv {l : List UInt8} {i cnt : Nat} {s : PS} {e y : Int} (hi : i < l.length) (h : endM l (oneM l i cnt) = (s, e, y, 0)) :
    cnt ≠ 64 ∧ stepOK s = true ∧ ∃ m : Nat, e = m ∧ m < l.length ∧ i + (stepT s).length ≤ m + 1 ∧ (92 ∉ l → m + 1 = i + (stepT s).length ∧ (l.drop i).take (stepT s).length = stepT s) := by
  have hdr : ∀ j, (l.drop i).getD j 0 = l.getD (i + j) 0 := fun j => Lib.getD_dropU l i j
  unfold endM at h
  by_cases hc : (oneM l i cnt).2.2.2 = 0 ∧ ((oneM l i cnt).2.1 = (l.length : Int) ∨ l.getD (oneM l i cnt).2.1.toNat 0 ≠ 93)
  · rw [if_pos hc] at h
    have := congrArg (fun x : Said => x.2.2.2) h
    simp [errS] at this
  rw [if_neg hc] at h
  have h0 : (oneM l i cnt).2.2.2 = 0 := by rw [h]
  have hbd := one_bd l i cnt hi h0
  have hend : l.getD (oneM l i cnt).2.1.toNat 0 = 93 := by
    rcases Classical.em (l.getD (oneM l i cnt).2.1.toNat 0 = 93) with e | e
    · exact e
    · exact absurd ⟨h0, .inr e⟩ hc
  have hne : (oneM l i cnt).2.1 ≠ (l.length : Int) := fun e => hc ⟨h0, .inl e⟩
  rw [h] at hbd hend hne
  dsimp only at hbd hend hne
  obtain ⟨m, rfl⟩ : ∃ m : Nat, e = (m : Int) := ⟨e.toNat, by omega⟩
  rw [Int.toNat_natCast] at hend
  unfold oneM at h
  by_cases h64 : cnt = 64
  · rw [if_pos h64] at h
    have := congrArg (fun x : Said => x.2.2.2) h
    simp [errS] at this
  rw [if_neg h64] at h
  by_cases h91 : l.getD i 0 ≠ 91
  · rw [if_pos h91] at h
    have := congrArg (fun x : Said => x.2.2.2) h
    simp [errS] at this
  rw [if_neg h91] at h
  have h91' : l.getD i 0 = 91 := Classical.byContradiction h91
  have hgm : l[m]? = some 93 := by
    have hm : m < l.length := by omega
    rw [List.getD_eq_getElem?_getD, List.getElem?_eq_getElem hm] at hend
    rw [List.getElem?_eq_getElem hm]
    exact congrArg some hend
  have hfirst : l.drop i = 91 :: l.drop (i + 1) := by
    rw [List.drop_eq_getElem_cons hi]
    congr 1
    rw [List.getD_eq_getElem?_getD, List.getElem?_eq_getElem hi] at h91'
    exact h91'
  have fin : ∀ X : List UInt8, stepT s = 91 :: (X ++ [93]) → m = i + 1 + X.length → (l.drop (i + 1)).take X.length = X → m + 1 = i + (stepT s).length ∧ (l.drop i).take (stepT s).length = stepT s := by
    intro X hX hm hx
    have hlen : (stepT s).length = X.length + 1 + 1 := by rw [hX]; simp
    refine ⟨by omega, ?_⟩
    rw [hlen, hfirst, List.take_succ_cons, hX]
    congr 1
    have hx2 : (l.drop (i + 1))[X.length]? = some 93 := by rw [List.getElem?_drop, ← hm]; exact hgm
    rw [List.take_add_one, hx, hx2]
    rfl
  by_cases hd : i + 1 < l.length ∧ digB (l.getD (i + 1) 0) = true
  · rw [if_pos hd] at h
    have hdp := digs_pos hd.1 hd.2
    unfold placeM at h
    by_cases hb : (l.getD (i + 1) 0 = 48 ∧ 1 < digs (l.drop (i + 1))) ∨ 9 < digs (l.drop (i + 1))
    · rw [if_pos hb] at h
      have := congrArg (fun x : Said => x.2.2.2) h
      simp at this
    rw [if_neg hb] at h
    have hD1 : ∀ c ∈ (l.drop (i + 1)).take (digs (l.drop (i + 1))), digB c = true := by
      intro c hc
      have e : (l.drop (i + 1)).take (digs (l.drop (i + 1))) = (l.drop (i + 1)).takeWhile digB := by
        have h1 : (l.drop (i + 1)).takeWhile digB ++ (l.drop (i + 1)).dropWhile digB = l.drop (i + 1) := List.takeWhile_append_dropWhile
        have h2 := List.take_left (l₁ := (l.drop (i + 1)).takeWhile digB) (l₂ := (l.drop (i + 1)).dropWhile digB)
        rw [h1] at h2
        exact h2
      rw [e] at hc
      exact mem_tw _ hc
    have hle := digs_le l (i + 1)
    have hDl : ((l.drop (i + 1)).take (digs (l.drop (i + 1)))).length = digs (l.drop (i + 1)) := by rw [List.length_take, List.length_drop]; omega
    have hD0 : ((l.drop (i + 1)).take (digs (l.drop (i + 1)))).getD 0 0 = l.getD (i + 1) 0 := by
      rw [List.getD_eq_getElem?_getD, List.getElem?_take_of_lt (by omega), ← List.getD_eq_getElem?_getD, Lib.getD_dropU, Nat.add_zero]
    obtain ⟨q, hq⟩ : ∃ q, digs (l.drop (i + 1)) = q + 1 := ⟨digs (l.drop (i + 1)) - 1, by omega⟩
    have hdc := dec_of q _ (hDl.trans hq) hD1 (fun e => by rw [hDl]; rw [hD0] at e; exact Nat.le_of_not_lt fun h1 => hb (.inl ⟨e, h1⟩))
    obtain ⟨hdc1, hdc2⟩ := hdc
    have h9 : valU ((l.drop (i + 1)).take (digs (l.drop (i + 1)))) ≤ 999999999 := by
      have : 10 ^ (q + 1) ≤ 10 ^ 9 := Nat.pow_le_pow_right (by decide) (by omega)
      have e : (10 : Nat) ^ 9 = 1000000000 := by decide
      omega
    generalize hX : (l.drop (i + 1)).take (digs (l.drop (i + 1))) = X at *
    have hs : s = ([], (valU X : Int), false) := (congrArg (fun x : Said => x.1) h).symm
    have hm : m = i + 1 + X.length := by
      have := congrArg (fun x : Said => x.2.1) h
      dsimp only at this
      omega
    have hT : stepT s = 91 :: (X ++ [93]) := by
      rw [hs]
      unfold stepT
      dsimp only
      rw [if_neg (by decide), Lib.itoa_nonneg, hdc1]
    have := fin X hT hm (by rw [hDl]; exact hX)
    refine ⟨h64, ?_, m, rfl, by omega, by omega, fun _ => this⟩
    rw [hs]
    simp [stepOK]
    omega
  rw [if_neg hd] at h
  by_cases hq : i + 1 < l.length ∧ l.getD (i + 1) 0 = 34
  · rw [if_pos hq] at h
    unfold nameM at h
    cases hu : unqM (l.drop (i + 1)) with
    | mk k r =>
    obtain ⟨n, b, e⟩ := r
    rw [hu] at h
    dsimp only at h
    by_cases he : e ≠ 0
    · rw [if_pos he] at h
      exact absurd (congrArg (fun x : Said => x.2.2.2) h) he
    rw [if_neg he] at h
    by_cases hk : keyE k ≠ 0
    · rw [if_pos hk] at h
      have := congrArg (fun x : Said => x.2.2.2) h
      simp at this
    rw [if_neg hk] at h
    have he0 : e = 0 := Classical.byContradiction he
    subst he0
    obtain ⟨hv, g1, g2, g3⟩ := unq_inv hu
    have hs : s = (k, 0, true) := (congrArg (fun x : Said => x.1) h).symm
    have hm : (m : Int) = ((i + 1 : Nat) : Int) + n := (congrArg (fun x : Said => x.2.1) h).symm
    have hT : stepT s = 91 :: (quoL' k ++ [93]) := by rw [hs]; simp [stepT]
    have hlen : (stepT s).length = (quoL' k).length + 2 := by rw [hT]; simp
    have hkey : Lib.indexByte k 0 < 0 := by
      have hk0 : keyE k = 0 := Classical.byContradiction hk
      unfold keyE at hk0
      rcases Classical.em (0 ≤ Lib.indexByte k 0) with e | e
      · rw [if_pos e] at hk0; cases hk0
      · omega
    refine ⟨h64, ?_, m, rfl, by omega, by omega, fun hn => ?_⟩
    · rw [hs]
      simp [stepOK, hv, hkey]
    · obtain ⟨q1, q2⟩ := g3 fun hx => hn (List.mem_of_mem_drop hx)
      exact fin _ hT (by omega) q2
  · rw [if_neg hq] at h
    have := congrArg (fun x : Said => x.2.2.2) h
    simp [errS] at this
theorem one_err (l : List UInt8) (i cnt : Nat) (hi : i < l.length) : (endM l (oneM l i cnt)).2.2.2 ≠ 0 → 0 ≤ (endM l (oneM l i cnt)).2.2.1 ∧ (endM l (oneM l i cnt)).2.2.1 ≤ l.length := by
  intro he
  unfold endM at he ⊢
  by_cases hc : (oneM l i cnt).2.2.2 = 0 ∧ ((oneM l i cnt).2.1 = (l.length : Int) ∨ l.getD (oneM l i cnt).2.1.toNat 0 ≠ 93)
  · rw [if_pos hc]
    have := one_bd l i cnt hi hc.1
    show 0 ≤ (oneM l i cnt).2.1 ∧ (oneM l i cnt).2.1 ≤ l.length
    omega
  rw [if_neg hc] at he ⊢
  unfold oneM at he ⊢
  split
  · show 0 ≤ (i : Int) ∧ (i : Int) ≤ l.length
    omega
  split
  · show 0 ≤ (i : Int) ∧ (i : Int) ≤ l.length
    omega
  split
  · unfold placeM
    split
    · show 0 ≤ ((i + 1 : Nat) : Int) ∧ ((i + 1 : Nat) : Int) ≤ l.length
      omega
    · show 0 ≤ (0 : Int) ∧ (0 : Int) ≤ l.length
      omega
  split
  · have hu := unq_bd (l.drop (i + 1))
    rw [List.length_drop] at hu
    unfold nameM
    split
    · dsimp only
      omega
    split
    · show 0 ≤ ((i + 1 : Nat) : Int) ∧ ((i + 1 : Nat) : Int) ≤ l.length
      omega
    · show 0 ≤ (0 : Int) ∧ (0 : Int) ≤ l.length
      omega
  · show 0 ≤ ((i + 1 : Nat) : Int) ∧ ((i + 1 : Nat) : Int) ≤ l.length
    omega
theorem parse_inv (l : List UInt8) : ∀ (f i : Nat) (acc p : List PS) (n e : Int), parseF l f i acc = (p, n, e) → l.length + 1 ≤ i + f → i ≤ l.length → acc.length ≤ 64 →
    (e = 0 ∧ n = 0 ∧ ∃ p', p = acc ++ p' ∧ p'.all stepOK = true ∧ acc.length + p'.length ≤ 64 ∧ (p'.flatMap stepT).length ≤ l.length - i ∧ (92 ∉ l → l.drop i = p'.flatMap stepT)) ∨
    (e ≠ 0 ∧ p = [] ∧ 0 ≤ n ∧ n ≤ l.length)
  | 0, i, _, _, _, _, _, h1, h2, _ => by omega
  | f + 1, i, acc, p, n, e, h, h1, h2, h3 => by
    rw [parseF] at h
    by_cases hi : i < l.length
    · rw [if_pos hi] at h
      by_cases he : (endM l (oneM l i acc.length)).2.2.2 ≠ 0
      · rw [if_pos he] at h
        have hb := one_err l i acc.length hi he
        cases h
        exact .inr ⟨he, rfl, hb.1, hb.2⟩
      · rw [if_neg he] at h
        have he0 : (endM l (oneM l i acc.length)).2.2.2 = 0 := Classical.byContradiction he
        generalize hr : endM l (oneM l i acc.length) = r at *
        obtain ⟨s, en, y, er⟩ := r
        dsimp only at he0 h
        subst he0
        obtain ⟨hc, hs, m, rfl, hm, g1, g2⟩ := step_inv hi hr
        rw [Int.toNat_natCast] at h
        have hp := stepT_pos s
        rcases parse_inv l f (m + 1) (acc ++ [s]) p n e h (by omega) (by omega) (by rw [List.length_append, List.length_cons, List.length_nil]; omega) with ⟨k1, k2, p', rfl, k3, k4, k5, k6⟩ | k
        · left
          rw [List.length_append, List.length_cons, List.length_nil] at k4
          refine ⟨k1, k2, s :: p', by rw [List.append_assoc]; rfl, by rw [List.all_cons, hs, k3]; rfl, by rw [List.length_cons]; omega, by rw [List.flatMap_cons, List.length_append]; omega, fun hn => ?_⟩
          obtain ⟨q1, q2⟩ := g2 hn
          rw [List.flatMap_cons, ← k6 hn, q1, ← List.drop_drop]
          conv => lhs; rw [← List.take_append_drop (stepT s).length (l.drop i), q2]
        · exact .inr k
    · rw [if_neg hi] at h
      cases h
      exact .inl ⟨rfl, rfl, [], by simp, rfl, by simpa using h3, by simp, fun _ => by rw [List.drop_of_length_le (by omega)]; rfl⟩
/-- What is parsed shows, not longer, and the same where no backslash stands; an error's place lies in the text. -/
theorem parse_again (l : List UInt8) {p : List PS} {n e : Int} (h : parseM l = (p, n, e)) :
    (e = 0 ∧ n = 0 ∧ (showM p).2 = 0 ∧ (showM p).1.length ≤ l.length ∧ (92 ∉ l → (showM p).1 = l)) ∨ (e ≠ 0 ∧ p = [] ∧ 0 ≤ n ∧ n ≤ l.length) := by
  rcases parse_inv l _ 0 [] p n e h (by omega) (by omega) (by simp) with ⟨k1, k2, p', rfl, k3, k4, k5, k6⟩ | k
  · left
    simp only [List.length_nil, Nat.zero_add] at k4
    show e = 0 ∧ n = 0 ∧ (showM p).2 = 0 ∧ (showM p).1.length ≤ l.length ∧ (92 ∉ l → (showM p).1 = l)
    have hs : showM p = (p.flatMap stepT, 0) := by
      unfold showM
      rw [if_neg (by omega), if_pos k3]
    rw [hs]
    exact ⟨k1, k2, rfl, by simpa using k5, fun hn => by have := k6 hn; simpa using this.symm⟩
  · exact .inr k
end Go.Proofs.YtlblddeemkefkaaGreatDoor
