/- The reference's Unquote in plain Lean, and that the program's reader answers alike. No program here. The digits, the escapes and the whole of the reference's Unquote answer as the program's reader does. No program here. -/
import Derived.Test.YtccmhhmdenfecaaGreatDoorLu
namespace Go.Proofs.YtccmhhmdenfecaaGreatDoor
set_option linter.unusedVariables false
set_option linter.unusedSimpArgs false
section
/-- The digits behind a u: the error's place, or their number. -/
def rF (sec : Bool) : Nat → Int → List UInt8 → Nat → Except Nat Int
  | 0, n, _, _ => .ok n
  | _ + 1, _, [], j => .error j
  | r + 1, n, c :: t, j =>
    if hexV c < 0 then .error j
    else if (sec = true ∧ (j = 0 ∧ 16 * n + hexV c ≠ 13 ∨ j = 1 ∧ ¬ (220 ≤ 16 * n + hexV c ∧ 16 * n + hexV c ≤ 223))) ∨ (sec = false ∧ j = 1 ∧ 220 ≤ 16 * n + hexV c ∧ 16 * n + hexV c ≤ 223) then .error j
    else rF sec r (16 * n + hexV c) t (j + 1)
/-- The item behind a backslash: the error's place, or its bytes and its length. -/
def rEsc (l : List UInt8) : Except Nat (List UInt8 × Nat) :=
  match l with
  | [] => .error 0
  | c :: t =>
    if 0 ≤ escV c then .ok ([(escV c).toNat.toUInt8], 1)
    else if c ≠ 117 then .error 0
    else match rF false 4 0 t 0 with
      | .error j => .error (1 + j)
      | .ok n => if 55296 ≤ n ∧ n < 56320 then
          (match t.drop 4 with
          | [] => .error 5
          | c1 :: t1 => if c1 ≠ 92 then .error 5 else match t1 with
            | [] => .error 6
            | c2 :: t2 => if c2 ≠ 117 then .error 6 else match rF true 4 0 t2 0 with
              | .error j => .error (7 + j)
              | .ok k => .ok (Lib.encodeRune (65536 + 1024 * (n - 55296) + k - 56320), 11))
        else .ok (Lib.encodeRune n, 5)
def rWrong (l : List UInt8) (i : Int) (j : Nat) (e : Int) : UR := if l.length ≤ j then ([], 0, i + l.length, 3) else ([], 0, i + j, e)
/-- How many bytes are a proper prefix of an encoding. -/
def rK (l : List UInt8) : Nat → Nat → Nat
  | 0, k => k
  | r + 1, k => if k < l.length ∧ PartU (k + 1) (bat l 0) (bat l 1) (bat l 2) then rK l r (k + 1) else k
def rU : Nat → List UInt8 → Int → List UInt8 → UR
  | 0, _, _, _ => ([], 0, 0, -1)
  | _ + 1, _, i, [] => ([], 0, i, 3)
  | f + 1, out, i, c :: t =>
    if c = 34 then (out, i + 1, 0, 0)
    else if c.toNat < 32 then ([], 0, i, 41)
    else if c = 92 then (match rEsc t with
      | .error j => rWrong (c :: t) i (j + 1) 41
      | .ok (b, n) => rU f (out ++ b) (i + 1 + n) (t.drop n))
    else if DoneU (c :: t).length (bat (c :: t) 0) (bat (c :: t) 1) (bat (c :: t) 2) (bat (c :: t) 3) then rU f (out ++ (c :: t).take (longB (bat (c :: t) 0))) (i + longB (bat (c :: t) 0)) ((c :: t).drop (longB (bat (c :: t) 0)))
    else rWrong (c :: t) i (rK (c :: t) 4 0) 40
def rUnq (l : List UInt8) : UR :=
  match l with
  | [] => ([], 0, 0, 3)
  | c :: t => if c ≠ 34 then ([], 0, 0, 41) else rU (t.length + 1) [] 1 t
theorem bat_take {l : List UInt8} {j i : Nat} (h : i < j) : bat (l.take j) i = bat l i := by
  unfold bat
  rw [List.getD_eq_getElem?_getD, List.getD_eq_getElem?_getD, List.getElem?_take_of_lt h]
theorem done_take {l : List UInt8} {j : Nat} (h1 : 1 ≤ j) (hj : j ≤ l.length) : DoneU (l.take j).length (bat (l.take j) 0) (bat (l.take j) 1) (bat (l.take j) 2) (bat (l.take j) 3) ↔
    (DoneU l.length (bat l 0) (bat l 1) (bat l 2) (bat l 3) ∧ longB (bat l 0) ≤ j) := by
  have hlen : (l.take j).length = j := by rw [List.length_take]; omega
  have e0 : bat (l.take j) 0 = bat l 0 := bat_take (by omega)
  unfold DoneU
  rw [hlen, e0]
  constructor
  · rintro ⟨a, b, c, d, e⟩
    refine ⟨⟨a, by omega, fun h => ?_, fun h => ?_, fun h => ?_⟩, b⟩
    · rw [← bat_take (l := l) (j := j) (i := 1) (by omega)]; exact c h
    · rw [← bat_take (l := l) (j := j) (i := 2) (by omega)]; exact d h
    · rw [← bat_take (l := l) (j := j) (i := 3) (by omega)]; exact e h
  · rintro ⟨⟨a, b, c, d, e⟩, f⟩
    refine ⟨a, f, fun h => ?_, fun h => ?_, fun h => ?_⟩
    · rw [bat_take (by omega)]; exact c h
    · rw [bat_take (by omega)]; exact d h
    · rw [bat_take (by omega)]; exact e h
theorem part_take {l : List UInt8} {j : Nat} (h1 : 1 ≤ j) (hj : j ≤ l.length) : PartU (l.take j).length (bat (l.take j) 0) (bat (l.take j) 1) (bat (l.take j) 2) ↔ PartU j (bat l 0) (bat l 1) (bat l 2) := by
  have hlen : (l.take j).length = j := by rw [List.length_take]; omega
  have e0 : bat (l.take j) 0 = bat l 0 := bat_take (by omega)
  unfold PartU
  rw [hlen, e0]
  constructor
  · rintro ⟨a, b, c⟩
    refine ⟨a, fun h => ?_, fun h => ?_⟩
    · rw [← bat_take (l := l) (j := j) (i := 1) (by omega)]; exact b h
    · rw [← bat_take (l := l) (j := j) (i := 2) (by omega)]; exact c h
  · rintro ⟨a, b, c⟩
    refine ⟨a, fun h => ?_, fun h => ?_⟩
    · rw [bat_take (by omega)]; exact b h
    · rw [bat_take (by omega)]; exact c h
theorem part_not_done {m b0 b1 b2 b3 : Nat} (h : PartU m b0 b1 b2) : ¬ DoneU m b0 b1 b2 b3 := by
  unfold PartU at h; unfold DoneU; omega
theorem done_part {m j b0 b1 b2 b3 : Nat} (h : DoneU m b0 b1 b2 b3) (hj : j < longB b0) : PartU j b0 b1 b2 := by
  unfold DoneU at h; unfold PartU
  exact ⟨hj, fun h' => h.2.2.1 (by omega), fun h' => h.2.2.2.1 (by omega)⟩
theorem part_less {j k b0 b1 b2 : Nat} (h : PartU k b0 b1 b2) (hj : j ≤ k) : PartU j b0 b1 b2 := by
  unfold PartU at h ⊢
  exact ⟨by omega, fun h' => h.2.1 (by omega), fun h' => h.2.2 (by omega)⟩
theorem long_le (b : Nat) : longB b ≤ 4 := by unfold longB; (repeat' split) <;> omega
/-- A byte of a plain encoding that is not yet whole. -/
def plainB (c : UInt8) : Prop := c ≠ 34 ∧ c ≠ 92 ∧ ¬ c.toNat < 32
theorem take_plain {Q : UQ} {c : UInt8} (hs : Q.st = 1) (h : Q.ru ≠ [] ∨ plainB c) : takeQ Q c = plainQ Q c := by
  unfold takeQ beginQ
  rw [hs, if_neg (by decide), if_pos rfl]
  by_cases hr : Q.ru = []
  · rcases h with h | ⟨h1, h2, h3⟩
    · exact absurd hr h
    · rw [if_neg (by simpa using hr), if_neg h1, if_neg h2, if_neg h3]
  · rw [if_pos hr]
theorem take_snoc' {l : List UInt8} {j : Nat} {c : UInt8} {t : List UInt8} (h : l.drop j = c :: t) : l.take j ++ [c] = l.take (j + 1) ∧ l.drop (j + 1) = t ∧ j < l.length := by
  have hj : j < l.length := by
    rcases Nat.lt_or_ge j l.length with h' | h'
    · exact h'
    · rw [List.drop_of_length_le h'] at h; cases h
  have h2 : l[j] = c := by
    have := List.drop_eq_getElem_cons hj
    rw [h] at this
    exact ((List.cons.inj this).1).symm
  refine ⟨?_, ?_, hj⟩
  · rw [List.take_succ_eq_append_getElem hj, h2]
  · have := List.drop_eq_getElem_cons hj
    rw [h] at this
    exact ((List.cons.inj this).2).symm
/-- The reader over bytes that are a proper prefix of an encoding. -/
theorem run_part {l : List UInt8} {Q : UQ} (hs : Q.st = 1) (hp : ∀ c, l.head? = some c → plainB c) : ∀ (d j : Nat) (i : Int), Q.ru = l.take j → j + d ≤ l.length → (1 ≤ d → PartU (j + d) (bat l 0) (bat l 1) (bat l 2)) →
    uqRun Q i (l.drop j) = uqRun { Q with ru := l.take (j + d) } (i + d) (l.drop (j + d))
  | 0, j, i, hr, hd, hk => by
    rw [Nat.add_zero, ← hr, Int.natCast_zero, Int.add_zero]
  | d + 1, j, i, hr, hd, hk => by
    cases hx : l.drop j with
    | nil =>
      have := congrArg List.length hx
      rw [List.length_drop, List.length_nil] at this
      omega
    | cons c t =>
      obtain ⟨e1, e2, e3⟩ := take_snoc' hx
      have hpk := hk (by omega)
      have hp1 : PartU (j + 1) (bat l 0) (bat l 1) (bat l 2) := part_less hpk (by omega)
      have hne : l.take (j + 1) ≠ [] := by
        intro he
        have := congrArg List.length he
        rw [List.length_take, List.length_nil] at this
        omega
      have hpt := (part_take (l := l) (j := j + 1) (by omega) (by omega)).2 hp1
      have hnd := part_not_done (b3 := bat (l.take (j + 1)) 3) hpt
      have hq : takeQ Q c = .ok { Q with ru := l.take (j + 1) } := by
        rw [take_plain hs]
        · unfold plainQ
          rw [hr, e1, if_neg (by rw [isU_iff hne]; exact hnd), if_neg (by rw [(full_iff hne hnd).2 hpt]; decide)]
        · cases j with
          | zero => exact .inr (hp c (by rw [List.drop_zero] at hx; rw [hx]; rfl))
          | succ j =>
            left
            rw [hr]
            intro he
            have := congrArg List.length he
            rw [List.length_take, List.length_nil] at this
            omega
      rw [uqRun, hq]
      dsimp only
      rw [if_neg (show ¬ Q.st = 7 by rw [hs]; decide), ← e2, run_part (Q := { Q with ru := l.take (j + 1) }) hs hp d (j + 1) (i + 1) rfl (by omega) (fun _ => by rw [show j + 1 + d = j + (d + 1) by omega]; exact hpk)]
      dsimp only
      rw [show j + 1 + d = j + (d + 1) by omega]
      congr 1
      push_cast; omega
theorem run_done {l : List UInt8} {Q : UQ} (hs : Q.st = 1) (hr : Q.ru = []) (hp : ∀ c, l.head? = some c → plainB c) (hd : DoneU l.length (bat l 0) (bat l 1) (bat l 2) (bat l 3)) (i : Int) :
    uqRun Q i l = uqRun { Q with out := Q.out ++ l.take (longB (bat l 0)) } (i + longB (bat l 0)) (l.drop (longB (bat l 0))) := by
  have h1 : 1 ≤ longB (bat l 0) := hd.1
  have h2 : longB (bat l 0) ≤ l.length := hd.2.1
  obtain ⟨d, hdn⟩ : ∃ d, longB (bat l 0) = d + 1 := ⟨longB (bat l 0) - 1, by omega⟩
  have hrun := run_part hs hp d 0 i (by rw [hr]; rfl) (by omega) (fun h => by rw [Nat.zero_add]; exact done_part hd (by omega))
  rw [List.drop_zero, Nat.zero_add] at hrun
  rw [hrun]
  cases hx : l.drop d with
  | nil =>
    have := congrArg List.length hx
    rw [List.length_drop, List.length_nil] at this
    omega
  | cons c t =>
    obtain ⟨e1, e2, e3⟩ := take_snoc' hx
    have hne : l.take (d + 1) ≠ [] := by
      intro he
      have := congrArg List.length he
      rw [List.length_take, List.length_nil] at this
      omega
    have hdt := (done_take (l := l) (j := d + 1) (by omega) (by omega)).2 ⟨hd, by omega⟩
    have hdl := decL_done hne hdt
    rw [bat_take (by omega)] at hdl
    have hq : takeQ { Q with ru := l.take d } c = .ok { Q with out := Q.out ++ l.take (d + 1), ru := [] } := by
      rw [take_plain (Q := { Q with ru := l.take d }) hs]
      · unfold plainQ
        dsimp only
        rw [e1, if_pos ((isU_iff hne).2 hdt), hdl]
        dsimp only
        rw [hdn, List.take_take, Nat.min_self]
      · cases d with
        | zero => exact .inr (hp c (by rw [List.drop_zero] at hx; rw [hx]; rfl))
        | succ d =>
          left
          dsimp only
          intro he
          have := congrArg List.length he
          rw [List.length_take, List.length_nil] at this
          omega
    rw [uqRun, hq]
    dsimp only
    rw [if_neg (show ¬ Q.st = 7 by rw [hs]; decide), hdn, e2, hr]
    congr 1
    push_cast; omega
theorem rK_spec {l : List UInt8} : ∀ (r k : Nat), k ≤ l.length → (1 ≤ k → PartU k (bat l 0) (bat l 1) (bat l 2)) → k ≤ rK l r k ∧ rK l r k ≤ l.length ∧ (1 ≤ rK l r k → PartU (rK l r k) (bat l 0) (bat l 1) (bat l 2)) ∧
    (rK l r k < k + r → rK l r k < l.length → ¬ PartU (rK l r k + 1) (bat l 0) (bat l 1) (bat l 2))
  | 0, k, h, hp => ⟨Nat.le_refl _, h, hp, fun h1 => by unfold rK at h1; omega⟩
  | r + 1, k, h, hp => by
    rw [rK]
    by_cases hc : k < l.length ∧ PartU (k + 1) (bat l 0) (bat l 1) (bat l 2)
    · rw [if_pos hc]
      obtain ⟨g1, g2, g3, g4⟩ := rK_spec r (k + 1) hc.1 (fun _ => hc.2)
      exact ⟨by omega, g2, g3, fun h1 h2 => g4 (by omega) h2⟩
    · rw [if_neg hc]
      exact ⟨Nat.le_refl _, h, hp, fun _ h2 hp2 => hc ⟨h2, hp2⟩⟩
theorem run_bad {l : List UInt8} {Q : UQ} (hs : Q.st = 1) (hr : Q.ru = []) (hp : ∀ c, l.head? = some c → plainB c) (hd : ¬ DoneU l.length (bat l 0) (bat l 1) (bat l 2) (bat l 3)) (i : Int) :
    uqRun Q i l = rWrong l i (rK l 4 0) 40 := by
  obtain ⟨-, g2, g3, g4⟩ := rK_spec (l := l) 4 0 (Nat.zero_le _) (fun h => by omega)
  generalize rK l 4 0 = k at *
  have hrun := run_part hs hp k 0 i (by rw [hr]; rfl) (by omega) (fun h => by rw [Nat.zero_add]; exact g3 h)
  rw [List.drop_zero, Nat.zero_add] at hrun
  rw [hrun]
  unfold rWrong
  by_cases hk : l.length ≤ k
  · have : k = l.length := by omega
    subst this
    rw [if_pos (Nat.le_refl _), List.drop_of_length_le (Nat.le_refl _), uqRun]
  · rw [if_neg hk]
    have hk4 : k < 4 := by
      rcases Nat.lt_or_ge k 4 with h | h
      · exact h
      · have := (g3 (by omega)).1
        have := long_le (bat l 0)
        omega
    have hnp := g4 (by omega) (by omega)
    cases hx : l.drop k with
    | nil =>
      have := congrArg List.length hx
      rw [List.length_drop, List.length_nil] at this
      omega
    | cons c t =>
      obtain ⟨e1, e2, e3⟩ := take_snoc' hx
      have hne : l.take (k + 1) ≠ [] := by
        intro he
        have := congrArg List.length he
        rw [List.length_take, List.length_nil] at this
        omega
      have hdt : ¬ DoneU (l.take (k + 1)).length (bat (l.take (k + 1)) 0) (bat (l.take (k + 1)) 1) (bat (l.take (k + 1)) 2) (bat (l.take (k + 1)) 3) := fun h => hd ((done_take (by omega) (by omega)).1 h).1
      have hft : fullU (l.take (k + 1)) = true := by
        cases hf : fullU (l.take (k + 1)) with
        | true => rfl
        | false => exact absurd ((part_take (by omega) (by omega)).1 ((full_iff hne hdt).1 hf)) hnp
      have hq : takeQ { Q with ru := l.take k } c = .error 40 := by
        rw [take_plain (Q := { Q with ru := l.take k }) hs]
        · unfold plainQ
          dsimp only
          rw [e1, if_neg (by rw [isU_iff hne]; exact hdt), if_pos hft]
        · cases k with
          | zero => exact .inr (hp c (by rw [List.drop_zero] at hx; rw [hx]; rfl))
          | succ k =>
            left
            dsimp only
            intro he
            have := congrArg List.length he
            rw [List.length_take, List.length_nil] at this
            omega
      rw [uqRun, hq]
end
section
/-- The reader behind the fourth digit. -/
def finQ (Q : UQ) : UQ := if Q.st = 6 then putQ Q (65536 + (Q.first - 55296) * 1024 + Q.n - 56320) else if 55296 ≤ Q.n ∧ Q.n < 56320 then { Q with st := 4, first := Q.n } else putQ Q Q.n
/-- What the digits read so far have in common. -/
def DInv (sec : Bool) (j : Nat) (n : Int) : Prop := (j = 0 → n = 0) ∧ (j = 1 → (sec = true → n = 13)) ∧ (j = 2 → (sec = true ∧ 220 ≤ n ∧ n ≤ 223) ∨ (sec = false ∧ ¬ (220 ≤ n ∧ n ≤ 223))) ∧ (j = 3 → (sec = true ∧ 3520 ≤ n ∧ n ≤ 3583) ∨ (sec = false ∧ ¬ (3520 ≤ n ∧ n ≤ 3583)))
theorem hexV_le (c : UInt8) : hexV c ≤ 15 := by unfold hexV; (repeat' split) <;> omega
/-- The condition of the reference's refusal. -/
def refB (sec : Bool) (j : Nat) (v : Int) : Prop := (sec = true ∧ (j = 0 ∧ v ≠ 13 ∨ j = 1 ∧ ¬ (220 ≤ v ∧ v ≤ 223))) ∨ (sec = false ∧ j = 1 ∧ 220 ≤ v ∧ v ≤ 223)
instance (sec : Bool) (j : Nat) (v : Int) : Decidable (refB sec j v) := by unfold refB; infer_instance
theorem bad_ref {sec : Bool} {j : Nat} {n h st : Int} (hi : DInv sec j n) (hj : j < 4) (h0 : 0 ≤ h) (h1 : h ≤ 15) (hst : st = if sec = true then 6 else 3) : (badD st (16 * n + h) ((j : Int) + 1) = true ↔ refB sec j (16 * n + h)) ∧ (¬ refB sec j (16 * n + h) → DInv sec (j + 1) (16 * n + h)) := by
  unfold DInv at hi ⊢
  unfold refB badD lowB padV
  have hj' : j = 0 ∨ j = 1 ∨ j = 2 ∨ j = 3 := by omega
  cases sec <;> simp only [if_true, if_false, Bool.false_eq_true] at hst <;> subst hst
  all_goals rcases hj' with rfl | rfl | rfl | rfl
  all_goals simp at hi ⊢
  all_goals omega
theorem digs_run (sec : Bool) : ∀ (r j : Nat) (l : List UInt8) (i : Int) (Q : UQ), Q.st = (if sec = true then 6 else 3) → Q.many = j → DInv sec j Q.n → j + r = 4 → 1 ≤ r →
    (∀ p, rF sec r Q.n l j = .error p → j ≤ p ∧ p - j ≤ l.length ∧ uqRun Q i l = (if l.length ≤ p - j then ([], 0, i + l.length, 3) else ([], 0, i + ((p - j : Nat) : Int), 41))) ∧
    (∀ v, rF sec r Q.n l j = .ok v → r ≤ l.length ∧ uqRun Q i l = uqRun (finQ { Q with n := v, many := 4 }) (i + r) (l.drop r))
  | 0, _, _, _, _, _, _, _, _, h => absurd h (by omega)
  | r + 1, j, [], i, Q, hs, hm, hi, hj, _ => by
    refine ⟨fun p hp => ?_, fun v hv => by cases hv⟩
    cases hp
    refine ⟨Nat.le_refl _, by omega, ?_⟩
    rw [uqRun, if_pos (by simp)]
    simp
  | r + 1, j, c :: t, i, Q, hs, hm, hi, hj, _ => by
    have htk : takeQ Q c = digitQ Q c := by
      unfold takeQ
      rw [hs]
      cases sec <;> rfl
    have hle := hexV_le c
    have hlen : (c :: t).length = t.length + 1 := rfl
    rw [rF]
    by_cases hx : hexV c < 0
    · rw [if_pos hx]
      refine ⟨fun p hp => ?_, fun v hv => by cases hv⟩
      cases hp
      have hq : takeQ Q c = .error 41 := by rw [htk]; unfold digitQ; rw [if_pos hx]
      refine ⟨Nat.le_refl _, by omega, ?_⟩
      rw [uqRun, hq, if_neg (by omega)]
      simp
    rw [if_neg hx]
    obtain ⟨b1, b2⟩ := bad_ref (st := Q.st) hi (by omega) (show 0 ≤ hexV c by omega) hle hs
    rw [← hm] at b1
    change (∀ p, (if refB sec j (16 * Q.n + hexV c) then Except.error j else rF sec r (16 * Q.n + hexV c) t (j + 1)) = .error p → _) ∧ ∀ v, (if refB sec j (16 * Q.n + hexV c) then Except.error j else rF sec r (16 * Q.n + hexV c) t (j + 1)) = .ok v → _
    by_cases hb : refB sec j (16 * Q.n + hexV c)
    · rw [if_pos hb]
      refine ⟨fun p hp => ?_, fun v hv => by cases hv⟩
      cases hp
      have hq : takeQ Q c = .error 41 := by rw [htk]; unfold digitQ; rw [if_neg hx, if_pos (b1.2 hb)]
      refine ⟨Nat.le_refl _, by omega, ?_⟩
      rw [uqRun, hq, if_neg (by omega)]
      simp
    rw [if_neg hb]
    have hi2 := b2 hb
    have hnb : ¬ badD Q.st (16 * Q.n + hexV c) (Q.many + 1) = true := fun h => hb (b1.1 h)
    cases r with
    | zero =>
      have hj3 : j = 3 := by omega
      subst hj3
      have hq : takeQ Q c = .ok (finQ { Q with n := 16 * Q.n + hexV c, many := 4 }) := by
        rw [htk]; unfold digitQ
        rw [if_neg hx, if_neg hnb, hm, if_neg (by decide)]
        unfold finQ
        dsimp only
        by_cases h6 : Q.st = 6
        · rw [if_pos h6, if_pos h6]; rfl
        · rw [if_neg h6, if_neg h6]
          by_cases hh : 55296 ≤ 16 * Q.n + hexV c ∧ 16 * Q.n + hexV c < 56320
          · rw [if_pos hh, if_pos hh]; rfl
          · rw [if_neg hh, if_neg hh]; rfl
      have h7 : ¬ (finQ { Q with n := 16 * Q.n + hexV c, many := 4 }).st = 7 := by
        unfold finQ putQ
        dsimp only
        (repeat' split) <;> (dsimp only; decide)
      rw [rF]
      refine ⟨fun p hp => (by cases hp), fun v hv => ?_⟩
      cases hv
      refine ⟨by omega, ?_⟩
      rw [uqRun, hq]
      dsimp only
      rw [if_neg h7]
      rfl
    | succ r =>
      have hq : takeQ Q c = .ok { Q with n := 16 * Q.n + hexV c, many := Q.many + 1 } := by
        rw [htk]; unfold digitQ
        rw [if_neg hx, if_neg hnb, if_pos (by omega)]
      have h7 : ¬ Q.st = 7 := by rw [hs]; cases sec <;> decide
      have hstep : uqRun Q i (c :: t) = uqRun { Q with n := 16 * Q.n + hexV c, many := Q.many + 1 } (i + 1) t := by
        rw [uqRun, hq]
        dsimp only
        rw [if_neg h7]
      obtain ⟨g1, g2⟩ := digs_run sec (r + 1) (j + 1) t (i + 1) { Q with n := 16 * Q.n + hexV c, many := Q.many + 1 } hs (by rw [hm]; rfl) hi2 (by omega) (by omega)
      refine ⟨fun p hp => ?_, fun v hv => ?_⟩
      · obtain ⟨k1, k2, k3⟩ := g1 p hp
        refine ⟨by omega, by omega, ?_⟩
        rw [hstep, k3]
        by_cases hc : t.length ≤ p - (j + 1)
        · rw [if_pos hc, if_pos (by omega), hlen]
          refine Prod.ext rfl (Prod.ext rfl (Prod.ext ?_ rfl))
          dsimp only; omega
        · rw [if_neg hc, if_neg (by omega)]
          refine Prod.ext rfl (Prod.ext rfl (Prod.ext ?_ rfl))
          dsimp only; omega
      · obtain ⟨k1, k2⟩ := g2 v hv
        refine ⟨by omega, ?_⟩
        rw [hstep, k2]
        dsimp only
        rw [List.drop_succ_cons, show i + ((r + 1 + 1 : Nat) : Int) = i + 1 + ((r + 1 : Nat) : Int) by omega]
theorem escV_bd (c : UInt8) : escV c ≤ 116 := by unfold escV; (repeat' split) <;> omega
theorem esc_run (l : List UInt8) (Q : UQ) (i : Int) (hs : Q.st = 2) (hru : Q.ru = []) :
    (∀ p, rEsc l = .error p → uqRun Q i l = (if l.length ≤ p then ([], 0, i + l.length, 3) else ([], 0, i + p, 41))) ∧
    (∀ b n, rEsc l = .ok (b, n) → n ≤ l.length ∧ 1 ≤ n ∧ ∃ Q' : UQ, Q'.st = 1 ∧ Q'.ru = [] ∧ Q'.out = Q.out ++ b ∧ uqRun Q i l = uqRun Q' (i + n) (l.drop n)) := by
  cases l with
  | nil =>
    refine ⟨fun p hp => ?_, fun b n hb => by cases hb⟩
    cases hp
    rw [uqRun, if_pos (by simp)]
    simp
  | cons c t =>
    have hlen : (c :: t).length = t.length + 1 := rfl
    have htk : takeQ Q c = escapeQ Q c := by unfold takeQ; rw [hs]; rfl
    unfold rEsc
    dsimp only
    by_cases he : 0 ≤ escV c
    · rw [if_pos he]
      refine ⟨fun p hp => (by cases hp), fun b n hb => ?_⟩
      cases hb
      have hq : takeQ Q c = .ok (putQ Q (escV c)) := by rw [htk]; unfold escapeQ; rw [if_pos he]
      refine ⟨by omega, Nat.le_refl _, putQ Q (escV c), rfl, hru, ?_, ?_⟩
      · show Q.out ++ Lib.encodeRune (escV c) = _
        unfold Lib.encodeRune
        rw [Lib.encodeRuneZ_one he (by have := escV_bd c; omega)]
        rfl
      · rw [uqRun, hq]
        dsimp only
        rw [if_neg (show ¬ (putQ Q (escV c)).st = 7 by unfold putQ; dsimp only; decide)]
        rfl
    rw [if_neg he]
    by_cases h117 : c = 117
    · rw [if_neg (show ¬ c ≠ 117 from fun h => h h117)]
      have hq : takeQ Q c = .ok { Q with st := 3, many := 0, n := 0 } := by rw [htk]; unfold escapeQ; rw [if_neg he, if_pos h117]
      have hstep : uqRun Q i (c :: t) = uqRun { Q with st := 3, many := 0, n := 0 } (i + 1) t := by
        rw [uqRun, hq]
        dsimp only
        rw [if_neg (by decide)]
      obtain ⟨g1, g2⟩ := digs_run false 4 0 t (i + 1) { Q with st := 3, many := 0, n := 0 } rfl rfl ⟨fun _ => rfl, fun h => by omega, fun h => by omega, fun h => by omega⟩ rfl (by omega)
      dsimp only at g1 g2
      cases hr : rF false 4 0 t 0 with
      | error j =>
        dsimp only
        refine ⟨fun p hp => ?_, fun b n hb => by cases hb⟩
        cases hp
        obtain ⟨k1, k2, k3⟩ := g1 j hr
        rw [hstep, k3]
        by_cases hc : t.length ≤ j - 0
        · rw [if_pos hc, if_pos (by omega), hlen]
          refine Prod.ext rfl (Prod.ext rfl (Prod.ext ?_ rfl))
          dsimp only; omega
        · rw [if_neg hc, if_neg (by omega)]
          refine Prod.ext rfl (Prod.ext rfl (Prod.ext ?_ rfl))
          dsimp only; omega
      | ok v =>
        dsimp only
        obtain ⟨k1, k2⟩ := g2 v hr
        by_cases hv : 55296 ≤ v ∧ v < 56320
        · rw [if_pos hv]
          have hf : finQ { Q with st := 3, many := 4, n := v } = { Q with st := 4, many := 4, n := v, first := v } := by
            unfold finQ
            dsimp only
            rw [if_neg (by decide), if_pos hv]
          rw [hf] at k2
          have hd4 : (t.drop 4).length = t.length - 4 := List.length_drop
          cases hx : t.drop 4 with
          | nil =>
            rw [hx] at k2 hd4
            rw [List.length_nil] at hd4
            dsimp only
            refine ⟨fun p hp => ?_, fun b n hb => by cases hb⟩
            cases hp
            rw [hstep, k2, uqRun, if_pos (by omega), hlen]
            refine Prod.ext rfl (Prod.ext rfl (Prod.ext ?_ rfl))
            dsimp only; omega
          | cons c1 t1 =>
            rw [hx] at k2 hd4
            rw [List.length_cons] at hd4
            dsimp only
            by_cases h92 : c1 = 92
            · rw [if_neg (show ¬ c1 ≠ 92 from fun h => h h92)]
              have hq1 : takeQ { Q with st := 4, many := 4, n := v, first := v } c1 = .ok { Q with st := 5, many := 0, n := 0, first := v } := by
                unfold takeQ wantQ
                dsimp only
                rw [if_neg (by decide), if_neg (by decide), if_neg (by decide), if_pos rfl, if_pos h92]
              rw [uqRun, hq1] at k2
              dsimp only at k2
              rw [if_neg (by decide)] at k2
              cases t1 with
              | nil =>
                rw [List.length_nil] at hd4
                dsimp only
                refine ⟨fun p hp => ?_, fun b n hb => by cases hb⟩
                cases hp
                rw [hstep, k2, uqRun, if_pos (by omega), hlen]
                refine Prod.ext rfl (Prod.ext rfl (Prod.ext ?_ rfl))
                dsimp only; omega
              | cons c2 t2 =>
                rw [List.length_cons] at hd4
                dsimp only
                by_cases hu : c2 = 117
                · rw [if_neg (show ¬ c2 ≠ 117 from fun h => h hu)]
                  have hq2 : takeQ { Q with st := 5, many := 0, n := 0, first := v } c2 = .ok { Q with st := 6, many := 0, n := 0, first := v } := by
                    unfold takeQ wantQ
                    dsimp only
                    rw [if_neg (by decide), if_neg (by decide), if_neg (by decide), if_neg (by decide), if_pos rfl, if_pos hu]
                  rw [uqRun, hq2] at k2
                  dsimp only at k2
                  rw [if_neg (by decide)] at k2
                  obtain ⟨m1, m2⟩ := digs_run true 4 0 t2 (i + 1 + ((4 : Nat) : Int) + 1 + 1) { Q with st := 6, many := 0, n := 0, first := v } rfl rfl ⟨fun _ => rfl, fun h => by omega, fun h => by omega, fun h => by omega⟩ rfl (by omega)
                  dsimp only at m1 m2
                  cases hr2 : rF true 4 0 t2 0 with
                  | error j =>
                    dsimp only
                    refine ⟨fun p hp => ?_, fun b n hb => by cases hb⟩
                    cases hp
                    obtain ⟨n1, n2, n3⟩ := m1 j hr2
                    rw [hstep, k2, n3]
                    by_cases hc : t2.length ≤ j - 0
                    · rw [if_pos hc, if_pos (by omega), hlen]
                      refine Prod.ext rfl (Prod.ext rfl (Prod.ext ?_ rfl))
                      dsimp only; omega
                    · rw [if_neg hc, if_neg (by omega)]
                      refine Prod.ext rfl (Prod.ext rfl (Prod.ext ?_ rfl))
                      dsimp only; omega
                  | ok k =>
                    dsimp only
                    refine ⟨fun p hp => (by cases hp), fun b n hb => ?_⟩
                    cases hb
                    obtain ⟨n1, n2⟩ := m2 k hr2
                    have hf2 : finQ { Q with st := 6, many := 4, n := k, first := v } = putQ { Q with st := 6, many := 4, n := k, first := v } (65536 + (v - 55296) * 1024 + k - 56320) := by
                      unfold finQ
                      dsimp only
                      rw [if_pos rfl]
                    rw [hf2] at n2
                    refine ⟨by omega, by omega, putQ { Q with st := 6, many := 4, n := k, first := v } (65536 + (v - 55296) * 1024 + k - 56320), rfl, hru, ?_, ?_⟩
                    · show Q.out ++ _ = _
                      rw [show 65536 + (v - 55296) * 1024 + k - 56320 = 65536 + 1024 * (v - 55296) + k - 56320 by omega]
                    · rw [hstep, k2, n2]
                      have hdd : t2.drop 4 = (c :: t).drop 11 := by
                        have : t2 = (t.drop 4).drop 2 := by rw [hx]; rfl
                        rw [this, List.drop_drop, List.drop_drop]; rfl
                      rw [hdd]
                      congr 1
                      omega
                · rw [if_pos hu]
                  have hq2 : takeQ { Q with st := 5, many := 0, n := 0, first := v } c2 = .error 41 := by
                    unfold takeQ wantQ
                    dsimp only
                    rw [if_neg (by decide), if_neg (by decide), if_neg (by decide), if_neg (by decide), if_pos rfl, if_neg hu]
                  refine ⟨fun p hp => ?_, fun b n hb => by cases hb⟩
                  cases hp
                  rw [hstep, k2, uqRun, hq2, if_neg (by omega)]
                  refine Prod.ext rfl (Prod.ext rfl (Prod.ext ?_ rfl))
                  dsimp only; omega
            · rw [if_pos h92]
              have hq1 : takeQ { Q with st := 4, many := 4, n := v, first := v } c1 = .error 41 := by
                unfold takeQ wantQ
                dsimp only
                rw [if_neg (by decide), if_neg (by decide), if_neg (by decide), if_pos rfl, if_neg h92]
              refine ⟨fun p hp => ?_, fun b n hb => by cases hb⟩
              cases hp
              rw [hstep, k2, uqRun, hq1, if_neg (by omega)]
              refine Prod.ext rfl (Prod.ext rfl (Prod.ext ?_ rfl))
              dsimp only; omega
        · rw [if_neg hv]
          have hf : finQ { Q with st := 3, many := 4, n := v } = putQ { Q with st := 3, many := 4, n := v } v := by
            unfold finQ
            dsimp only
            rw [if_neg (by decide), if_neg hv]
          rw [hf] at k2
          refine ⟨fun p hp => (by cases hp), fun b n hb => ?_⟩
          cases hb
          refine ⟨by omega, by omega, putQ { Q with st := 3, many := 4, n := v } v, rfl, hru, rfl, ?_⟩
          rw [hstep, k2, List.drop_succ_cons]
          congr 1
          omega
    · rw [if_pos h117]
      have hq : takeQ Q c = .error 41 := by rw [htk]; unfold escapeQ; rw [if_neg he, if_neg h117]
      refine ⟨fun p hp => ?_, fun b n hb => by cases hb⟩
      cases hp
      rw [uqRun, hq, if_neg (by omega)]
      simp
theorem rU_run : ∀ (f : Nat) (l : List UInt8) (Q : UQ) (i : Int), l.length < f → Q.st = 1 → Q.ru = [] → rU f Q.out i l = uqRun Q i l
  | 0, _, _, _, h, _, _ => by omega
  | f + 1, [], Q, i, _, _, _ => rfl
  | f + 1, c :: t, Q, i, h, hs, hru => by
    have hlen : (c :: t).length = t.length + 1 := rfl
    have htk : takeQ Q c = beginQ Q c := by unfold takeQ; rw [hs]; rfl
    rw [rU]
    by_cases h34 : c = 34
    · rw [if_pos h34]
      have hq : takeQ Q c = .ok { Q with st := 7 } := by rw [htk]; unfold beginQ; rw [if_neg (by simpa using hru), if_pos h34]
      rw [uqRun, hq]
      rfl
    rw [if_neg h34]
    by_cases h32 : c.toNat < 32
    · rw [if_pos h32]
      have h92 : c ≠ 92 := by rintro rfl; exact absurd h32 (by decide)
      have hq : takeQ Q c = .error 41 := by rw [htk]; unfold beginQ; rw [if_neg (by simpa using hru), if_neg h34, if_neg h92, if_pos h32]
      rw [uqRun, hq]
    rw [if_neg h32]
    by_cases h92 : c = 92
    · rw [if_pos h92]
      have hq : takeQ Q c = .ok { Q with st := 2 } := by rw [htk]; unfold beginQ; rw [if_neg (by simpa using hru), if_neg h34, if_pos h92]
      have hstep : uqRun Q i (c :: t) = uqRun { Q with st := 2 } (i + 1) t := by
        rw [uqRun, hq]
        dsimp only
        rw [if_neg (by decide)]
      obtain ⟨g1, g2⟩ := esc_run t { Q with st := 2 } (i + 1) rfl hru
      rw [hstep]
      cases hr : rEsc t with
      | error j =>
        dsimp only
        rw [g1 j hr]
        unfold rWrong
        by_cases hc : t.length ≤ j
        · rw [if_pos hc, if_pos (by omega), hlen]
          refine Prod.ext rfl (Prod.ext rfl (Prod.ext ?_ rfl))
          dsimp only; omega
        · rw [if_neg hc, if_neg (by omega)]
          refine Prod.ext rfl (Prod.ext rfl (Prod.ext ?_ rfl))
          dsimp only; omega
      | ok bn =>
        obtain ⟨b, n⟩ := bn
        dsimp only
        obtain ⟨k1, k2, Q', s1, s2, s3, s4⟩ := g2 b n hr
        have := rU_run f (t.drop n) Q' (i + 1 + n) (by rw [List.length_drop]; omega) s1 s2
        rw [s3] at this
        rw [s4, ← this]
    · rw [if_neg h92]
      have hp : ∀ x, (c :: t).head? = some x → plainB x := by
        intro x hx
        cases hx
        exact ⟨h34, h92, h32⟩
      by_cases hd : DoneU (c :: t).length (bat (c :: t) 0) (bat (c :: t) 1) (bat (c :: t) 2) (bat (c :: t) 3)
      · rw [if_pos hd, run_done hs hru hp hd]
        have hl1 := hd.1
        exact rU_run f ((c :: t).drop (longB (bat (c :: t) 0))) { Q with out := Q.out ++ (c :: t).take (longB (bat (c :: t) 0)) } _ (by rw [List.length_drop]; omega) hs hru
      · rw [if_neg hd, run_bad hs hru hp hd]
/-- The reference's Unquote is the program's. -/
theorem rUnq_eq (l : List UInt8) : rUnq l = unqM l := by
  unfold rUnq unqM
  cases l with
  | nil => rfl
  | cons c t =>
    dsimp only
    by_cases h : c = 34
    · rw [if_neg (show ¬ c ≠ 34 from fun g => g h)]
      have hq : takeQ uq0 c = .ok { uq0 with st := 1 } := by
        unfold takeQ wantQ
        rw [if_pos (show uq0.st = 0 from rfl), if_pos h]
        rfl
      rw [uqRun, hq]
      dsimp only
      rw [if_neg (by decide)]
      exact rU_run (t.length + 1) t { uq0 with st := 1 } 1 (Nat.lt_succ_self _) rfl rfl
    · rw [if_pos h]
      have hq : takeQ uq0 c = .error 41 := by
        unfold takeQ wantQ
        rw [if_pos (show uq0.st = 0 from rfl), if_neg h]
      rw [uqRun, hq]
end
end Go.Proofs.YtccmhhmdenfecaaGreatDoor
