/- The plain laws of Get and Set on trees: PathJoins, PathPuts, PathAll. -/
import Derived.Test.YtlblddeemkefkaaGreatDoorFc
namespace Go.Proofs.YtlblddeemkefkaaGreatDoor
set_option linter.unusedVariables false
set_option linter.unusedSimpArgs false
section
open Go.RowKit
def kidD (T : DT) (i : Nat) : DT := (kidsOf T).getD i (.mk 0 0 0 [] [] [])
theorem getD_cons (T : DT) (s : PS) (r : List PS) : getD T (s :: r) = if leadsD T s < 0 then none else getD (kidD T (leadsD T s).toNat) r := by
  rw [getD]; rfl
theorem getD_app : ∀ (p q : List PS) (T : DT), getD T (p ++ q) = (getD T p).bind fun T' => getD T' q
  | [], q, T => by rw [List.nil_append, getD]; rfl
  | s :: p, q, T => by
    rw [List.cons_append, getD_cons, getD_cons]
    by_cases h : leadsD T s < 0
    · rw [if_pos h, if_pos h]; rfl
    · rw [if_neg h, if_neg h, getD_app p q]
/-- PathJoins, plain. -/
theorem getR_app (T : DT) (p q : List PS) (h : (getR T p).2 = 0) : getR T (p ++ q) = getR (getR T p).1 q := by
  unfold getR at h ⊢
  rw [getD_app]
  cases hg : getD T p with
  | none => rw [hg] at h; cases h
  | some T' => rfl
theorem getR_app_err (T : DT) (p q : List PS) (h : (getR T p).2 ≠ 0) : (getR T p).2 = 80 ∧ (getR T (p ++ q)).2 = 80 := by
  unfold getR at h ⊢
  rw [getD_app]
  cases hg : getD T p with
  | none => exact ⟨rfl, rfl⟩
  | some T' => rw [hg] at h; exact absurd rfl h
theorem getR_two (T : DT) (p : List PS) : (getR T p).2 = 0 ∨ (getR T p).2 = 80 := by
  unfold getR
  cases getD T p with
  | none => exact .inr rfl
  | some _ => exact .inl rfl
/-! What Set does to paths. -/
/-- A tree with one child replaced. -/
def setKid : DT → Nat → DT → DT
  | .mk kd n u t ks l, i, x => .mk kd n u t ks (l.set i x)
theorem putD_cons (T : DT) (s : PS) (r : List PS) (N : DT) : putD T (s :: r) N = if leadsD T s < 0 then (zT, false) else (setKid T (leadsD T s).toNat (putD (kidD T (leadsD T s).toNat) r N).1, (putD (kidD T (leadsD T s).toNat) r N).2) := by
  obtain ⟨kd, n, u, t, ks, l⟩ := T
  rw [putD]
  rfl
theorem leads_set (T : DT) (i : Nat) (x : DT) (s : PS) : leadsD (setKid T i x) s = leadsD T s := by
  obtain ⟨kd, n, u, t, ks, l⟩ := T
  show leadsD (.mk kd n u t ks (l.set i x)) s = _
  unfold leadsD
  have e : leadsI (.mk kd n u t ks (l.set i x)) s = leadsI (.mk kd n u t ks l) s := rfl
  rw [e]
  have e2 : (kidsOf (.mk kd n u t ks (l.set i x))).length = (kidsOf (.mk kd n u t ks l)).length := List.length_set
  simp only [e, e2]
theorem kid_set_self (T : DT) (i : Nat) (x : DT) (h : i < (kidsOf T).length) : kidD (setKid T i x) i = x := by
  obtain ⟨kd, n, u, t, ks, l⟩ := T
  show (l.set i x).getD i _ = x
  have h' : i < l.length := h
  rw [List.getD_eq_getElem?_getD, List.getElem?_set_self h']
  rfl
theorem kid_set_ne (T : DT) (i j : Nat) (x : DT) (h : i ≠ j) : kidD (setKid T i x) j = kidD T j := by
  obtain ⟨kd, n, u, t, ks, l⟩ := T
  show (l.set i x).getD j _ = l.getD j _
  rw [List.getD_eq_getElem?_getD, List.getD_eq_getElem?_getD, List.getElem?_set_ne h]
theorem put_get : ∀ (p : List PS) (T N : DT), (putD T p N).2 = true → getD (putD T p N).1 p = some N ∧ ∀ i, i < p.length → getD T (p.take (i + 1)) ≠ none
  | [], T, N, _ => ⟨by obtain ⟨kd, n, u, t, ks, l⟩ := T; rw [putD, getD], fun i h => by simp at h⟩
  | s :: r, T, N, h => by
    rw [putD_cons] at h ⊢
    by_cases hl : leadsD T s < 0
    · rw [if_pos hl] at h; cases h
    rw [if_neg hl] at h ⊢
    have hb := leadsD_bd T s
    obtain ⟨h1, h2⟩ := put_get r _ N h
    refine ⟨?_, fun i hi => ?_⟩
    · rw [getD_cons, leads_set, if_neg hl, kid_set_self _ _ _ (by omega)]
      exact h1
    · rw [List.take_succ_cons, getD_cons, if_neg hl]
      cases i with
      | zero => rw [List.take_zero, getD]; simp
      | succ i => exact h2 i (by simpa using hi)
/-- A path that leads to another tree before its end is not affected. -/
theorem put_other : ∀ (p q : List PS) (T N : DT) (i : Nat), (putD T p N).2 = true → i < p.length → i < q.length → getD T (p.take (i + 1)) ≠ getD T (q.take (i + 1)) → getD T (q.take (i + 1)) ≠ none → getD (putD T p N).1 q = getD T q
  | [], _, _, _, i, _, h, _, _, _ => by simp at h
  | _ :: _, [], _, _, i, _, _, h, _, _ => by simp at h
  | s :: r, s' :: r', T, N, i, h, hi, hi', hd, hn => by
    rw [putD_cons] at h ⊢
    by_cases hl : leadsD T s < 0
    · rw [if_pos hl] at h; cases h
    rw [if_neg hl] at h ⊢
    have hb := leadsD_bd T s
    have hb' := leadsD_bd T s'
    rw [List.take_succ_cons, List.take_succ_cons, getD_cons, getD_cons, if_neg hl] at hd
    rw [List.take_succ_cons, getD_cons] at hn
    rw [getD_cons, getD_cons, leads_set]
    by_cases hl' : leadsD T s' < 0
    · rw [if_pos hl', if_pos hl']
    rw [if_neg hl'] at hd hn
    rw [if_neg hl', if_neg hl']
    by_cases he : leadsD T s = leadsD T s'
    · rw [← he] at hd hn ⊢
      rw [kid_set_self _ _ _ (by omega)]
      cases i with
      | zero => rw [List.take_zero, List.take_zero, getD] at hd; exact absurd rfl hd
      | succ i => exact put_other r r' _ N i h (by simpa using hi) (by simpa using hi') hd hn
    · rw [kid_set_ne _ _ _ _ (by omega)]
/-- A path that fails fails behind Set. -/
theorem put_none : ∀ (p q : List PS) (T N : DT) (i : Nat), (putD T p N).2 = true → i < p.length → i < q.length → getD T (q.take (i + 1)) = none → getD T q = none ∧ getD (putD T p N).1 q = none
  | [], _, _, _, i, _, h, _, _ => by simp at h
  | _ :: _, [], _, _, i, _, _, h, _ => by simp at h
  | s :: r, s' :: r', T, N, i, h, hi, hi', hn => by
    have hq : getD T (s' :: r') = none := by
      have := getD_app ((s' :: r').take (i + 1)) ((s' :: r').drop (i + 1)) T
      rw [List.take_append_drop, hn] at this
      exact this
    refine ⟨hq, ?_⟩
    rw [putD_cons] at h ⊢
    by_cases hl : leadsD T s < 0
    · rw [if_pos hl] at h; cases h
    rw [if_neg hl] at h ⊢
    have hb := leadsD_bd T s
    have hb' := leadsD_bd T s'
    rw [List.take_succ_cons, getD_cons] at hn
    rw [getD_cons] at hq ⊢
    rw [leads_set]
    by_cases hl' : leadsD T s' < 0
    · rw [if_pos hl']
    rw [if_neg hl'] at hn hq ⊢
    by_cases he : leadsD T s = leadsD T s'
    · rw [← he] at hn hq ⊢
      rw [kid_set_self _ _ _ (by omega)]
      cases i with
      | zero => rw [List.take_zero, getD] at hn; cases hn
      | succ i => exact (put_none r r' _ N i h (by simpa using hi) (by simpa using hi') hn).2
    · rw [kid_set_ne _ _ _ _ (by omega)]
      exact hq
theorem setR_ok {T N : DT} {p : List PS} (h : (setR T p N).2 = 0) : (putD T p N).2 = true ∧ setR T p N = ((putD T p N).1, 0) ∧ chkD (putD T p N).1 = 0 := by
  unfold setR at h ⊢
  cases hp : (putD T p N).2 with
  | false => rw [hp, if_pos rfl] at h; cases h
  | true =>
    rw [hp, if_neg (by simp)] at h
    rw [if_neg (by simp)]
    by_cases hc : chkD (putD T p N).1 ≠ 0
    · rw [if_pos hc] at h; exact absurd h hc
    · rw [if_neg hc]
      exact ⟨rfl, rfl, Classical.byContradiction hc⟩
theorem setR_err {T N : DT} {p : List PS} (h : (setR T p N).2 ≠ 0) : (setR T p N).1 = zT := by
  unfold setR at h ⊢
  cases hp : (putD T p N).2 with
  | false => rw [if_pos rfl]
  | true =>
    rw [hp, if_neg (by simp)] at h
    rw [if_neg (by simp)]
    by_cases hc : chkD (putD T p N).1 ≠ 0
    · rw [if_pos hc]
    · rw [if_neg hc] at h; exact absurd rfl h
theorem getR_of {T T' : DT} {p : List PS} (h : getD T p = some T') : getR T p = (T', 0) := by unfold getR; rw [h]
theorem getR_no {T : DT} {p : List PS} (h : getD T p = none) : getR T p = (zT, 80) := by unfold getR; rw [h]
theorem getR_inv {T : DT} {p : List PS} (h : (getR T p).2 = 0) : getD T p = some (getR T p).1 := by
  unfold getR at h ⊢
  cases hg : getD T p with
  | none => rw [hg] at h; cases h
  | some T' => rfl
theorem getR_inv_no {T : DT} {p : List PS} (h : (getR T p).2 ≠ 0) : getD T p = none := by
  unfold getR at h
  cases hg : getD T p with
  | none => rfl
  | some T' => rw [hg] at h; exact absurd rfl h
/-! A valid tree's children. -/
theorem foldE_head {n : Int} {x : Int × DT} {r : List (Int × DT)} (h : foldE n (x :: r) = 0) : stepD (n + 1) x.1 x.2 = 0 := by
  rw [foldE] at h
  by_cases hs : stepD (n + 1) x.1 x.2 ≠ 0
  · rw [if_pos hs] at h; exact absurd h hs
  · exact Classical.byContradiction hs
theorem keysE_nodup : ∀ (ks had : List (List UInt8)), keysE had ks = 0 → ks.Nodup ∧ ∀ k ∈ ks, k ∉ had
  | [], _, _ => ⟨List.nodup_nil, by simp⟩
  | k :: ks, had, h => by
    rw [keysE] at h
    by_cases h0 : (0 : UInt8) ∈ k
    · rw [if_pos h0] at h; cases h
    rw [if_neg h0] at h
    by_cases h1 : k ∈ had
    · rw [if_pos h1] at h; cases h
    rw [if_neg h1] at h
    obtain ⟨g1, g2⟩ := keysE_nodup ks _ h
    refine ⟨List.nodup_cons.2 ⟨fun hk => g2 k hk (by simp), g1⟩, fun x hx => ?_⟩
    rcases List.mem_cons.1 hx with rfl | hx
    · exact h1
    · exact fun hm => g2 x hx (by simp [hm])
theorem chk_map {kd n u : Int} {s : List UInt8} {ks : List (List UInt8)} {l : List DT} (h : chkD (.mk kd n u s ks l) = 0) : (kd = 17 → ks.length = l.length ∧ ks.Nodup) := by
  unfold chkD at h
  rw [nodesD] at h
  have hs := foldE_head h
  unfold stepD at hs
  dsimp only at hs
  rw [if_neg (by omega), if_neg (by omega)] at hs
  by_cases hsu : suchD (.mk kd n u s ks l) = false
  · rw [if_pos hsu] at hs; cases hs
  rw [if_neg hsu] at hs
  rw [Bool.not_eq_false] at hsu
  rintro rfl
  rw [suchD, Bool.and_eq_true, decide_eq_true_eq] at hsu
  refine ⟨by have := hsu.1; omega, ?_⟩
  unfold keyedD at hs
  dsimp only at hs
  rw [if_neg (fun h => by have := h.1; omega)] at hs
  exact (keysE_nodup ks [] hs).1
theorem idx_nodup : ∀ (ks : List (List UInt8)) (i : Nat) (hi : i < ks.length), ks.Nodup → idxK ks ks[i] = i := by
  intro ks i hi hn
  refine idx_here hi rfl ?_
  intro hm
  obtain ⟨j, hj, e⟩ := List.mem_iff_getElem.1 hm
  rw [List.length_take] at hj
  rw [List.getElem_take] at e
  exact List.pairwise_iff_getElem.1 hn j i (by omega) hi (by omega) e
theorem leads_at (T : DT) (i : Nat) (h : i < (kidsOf T).length) : leadsD T ([], (i : Int), false) = i := by
  obtain ⟨kd, n, u, t, ks, l⟩ := T
  have e : leadsI (.mk kd n u t ks l) ([], (i : Int), false) = i := rfl
  unfold leadsD
  rw [e, if_neg]
  rintro (h1 | h1) <;> omega
theorem getR_at (T : DT) (i : Nat) (h : i < (kidsOf T).length) : getR T [([], (i : Int), false)] = (kidD T i, 0) := by
  refine getR_of ?_
  rw [getD_cons, leads_at T i h, if_neg (by omega), Int.toNat_natCast, getD]
theorem getR_atat (T : DT) (i k : Nat) (h : i < (kidsOf T).length) (hk : k < (kidsOf (kidD T i)).length) : getR T [([], (i : Int), false), ([], (k : Int), false)] = (kidD (kidD T i) k, 0) := by
  refine getR_of ?_
  rw [getD_cons, leads_at T i h, if_neg (by omega), Int.toNat_natCast, getD_cons, leads_at _ k hk, if_neg (by omega), Int.toNat_natCast, getD]
theorem getR_end (T : DT) : getR T [([], ((kidsOf T).length : Int), false)] = (zT, 80) := by
  refine getR_no ?_
  obtain ⟨kd, n, u, t, ks, l⟩ := T
  have e : leadsD (.mk kd n u t ks l) ([], ((kidsOf (.mk kd n u t ks l)).length : Int), false) = -1 := by
    unfold leadsD
    rw [if_pos]
    exact .inr (Int.le_refl _)
  rw [getD_cons, e, if_pos (by omega)]
theorem getR_by {kd n u : Int} {s : List UInt8} {ks : List (List UInt8)} {l : List DT} (h : chkD (.mk kd n u s ks l) = 0) (hk : kd = 17) (i : Nat) (hi : i < ks.length) : getR (.mk kd n u s ks l) [(ks[i], 0, true)] = (kidD (.mk kd n u s ks l) i, 0) := by
  obtain ⟨h1, h2⟩ := chk_map h hk
  have e : leadsI (.mk kd n u s ks l) (ks[i], 0, true) = i := by
    show (if kd = 17 then idxK ks ks[i] else -1) = _
    rw [if_pos hk, idx_nodup ks i hi h2]
  have e2 : leadsD (.mk kd n u s ks l) (ks[i], 0, true) = i := by
    unfold leadsD
    rw [e, if_neg]
    rintro (h3 | h3)
    · omega
    · have : ((kidsOf (.mk kd n u s ks l)).length : Int) = l.length := rfl
      omega
  refine getR_of ?_
  rw [getD_cons, e2, if_neg (by omega), Int.toNat_natCast, getD]
theorem getR_nokey {kd n u : Int} {s : List UInt8} {ks : List (List UInt8)} {l : List DT} (hk : kd ≠ 17) (k : List UInt8) : getR (.mk kd n u s ks l) [(k, 0, true)] = (zT, 80) := by
  have e : leadsI (.mk kd n u s ks l) (k, 0, true) = -1 := by
    show (if kd = 17 then idxK ks k else -1) = _
    rw [if_neg hk]
  have e2 : leadsD (.mk kd n u s ks l) (k, 0, true) = -1 := by
    unfold leadsD
    rw [e, if_pos (.inl (by omega))]
  refine getR_no ?_
  rw [getD_cons, e2, if_pos (by omega)]
end
end Go.Proofs.YtlblddeemkefkaaGreatDoor
