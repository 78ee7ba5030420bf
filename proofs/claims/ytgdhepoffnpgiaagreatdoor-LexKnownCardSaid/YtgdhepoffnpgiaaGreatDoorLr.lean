/- The reference's Unquote in plain Lean, and that the program's reader answers alike. No program here. -/
import Derived.Test.YtgdhepoffnpgiaaGreatDoorLu
namespace Go.Proofs.YtgdhepoffnpgiaaGreatDoor
set_option linter.unusedVariables false
set_option linter.unusedSimpArgs false
/-- The digits behind a u: the error's place, or their number. -/
def rF (sec : Bool) : Nat → Int → List UInt8 → Nat → Except Nat Int
  | 0, n, _, _ => .ok n
  | _ + 1, _, [], j => .error j
  | r + 1, n, c :: t, j =>
    if hexV c < 0 then .error j
    else if (sec = true ∧ (j = 0 ∧ 16 * n + hexV c ≠ 13 ∨ j = 1 ∧ ¬ (220 ≤ 16 * n + hexV c ∧ 16 * n + hexV c ≤ 223))) ∨ (sec = false ∧ j = 1 ∧ 220 ≤ 16 * n + hexV c ∧ 16 * n + hexV c ≤ 223) then .error j
    else rF sec r (16 * n + hexV c) t (j + 1)
/-- The item behind a backslash: the error's place, or its bytes and its length. -/
def rEsc (l : List UInt8) : Except Nat (List UInt8 × Nat) :=
  match l with
  | [] => .error 0
  | c :: t =>
    if 0 ≤ escV c then .ok ([(escV c).toNat.toUInt8], 1)
    else if c ≠ 117 then .error 0
    else match rF false 4 0 t 0 with
      | .error j => .error (1 + j)
      | .ok n => if 55296 ≤ n ∧ n < 56320 then
          (match t.drop 4 with
          | [] => .error 5
          | c1 :: t1 => if c1 ≠ 92 then .error 5 else match t1 with
            | [] => .error 6
            | c2 :: t2 => if c2 ≠ 117 then .error 6 else match rF true 4 0 t2 0 with
              | .error j => .error (7 + j)
              | .ok k => .ok (Lib.encodeRune (65536 + 1024 * (n - 55296) + k - 56320), 11))
        else .ok (Lib.encodeRune n, 5)
def rWrong (l : List UInt8) (i : Int) (j : Nat) (e : Int) : UR := if l.length ≤ j then ([], 0, i + l.length, 3) else ([], 0, i + j, e)
/-- How many bytes are a proper prefix of an encoding. -/
def rK (l : List UInt8) : Nat → Nat → Nat
  | 0, k => k
  | r + 1, k => if k < l.length ∧ PartU (k + 1) (bat l 0) (bat l 1) (bat l 2) then rK l r (k + 1) else k
def rU : Nat → List UInt8 → Int → List UInt8 → UR
  | 0, _, _, _ => ([], 0, 0, -1)
  | _ + 1, _, i, [] => ([], 0, i, 3)
  | f + 1, out, i, c :: t =>
    if c = 34 then (out, i + 1, 0, 0)
    else if c.toNat < 32 then ([], 0, i, 41)
    else if c = 92 then (match rEsc t with
      | .error j => rWrong (c :: t) i (j + 1) 41
      | .ok (b, n) => rU f (out ++ b) (i + 1 + n) (t.drop n))
    else if DoneU (c :: t).length (bat (c :: t) 0) (bat (c :: t) 1) (bat (c :: t) 2) (bat (c :: t) 3) then rU f (out ++ (c :: t).take (longB (bat (c :: t) 0))) (i + longB (bat (c :: t) 0)) ((c :: t).drop (longB (bat (c :: t) 0)))
    else rWrong (c :: t) i (rK (c :: t) 4 0) 40
def rUnq (l : List UInt8) : UR :=
  match l with
  | [] => ([], 0, 0, 3)
  | c :: t => if c ≠ 34 then ([], 0, 0, 41) else rU (t.length + 1) [] 1 t
theorem bat_take {l : List UInt8} {j i : Nat} (h : i < j) : bat (l.take j) i = bat l i := by
  unfold bat
  rw [List.getD_eq_getElem?_getD, List.getD_eq_getElem?_getD, List.getElem?_take_of_lt h]
theorem done_take {l : List UInt8} {j : Nat} (h1 : 1 ≤ j) (hj : j ≤ l.length) : DoneU (l.take j).length (bat (l.take j) 0) (bat (l.take j) 1) (bat (l.take j) 2) (bat (l.take j) 3) ↔
    (DoneU l.length (bat l 0) (bat l 1) (bat l 2) (bat l 3) ∧ longB (bat l 0) ≤ j) := by
  have hlen : (l.take j).length = j := by rw [List.length_take]; omega
  have e0 : bat (l.take j) 0 = bat l 0 := bat_take (by omega)
  unfold DoneU
  rw [hlen, e0]
  constructor
  · rintro ⟨a, b, c, d, e⟩
    refine ⟨⟨a, by omega, fun h => ?_, fun h => ?_, fun h => ?_⟩, b⟩
    · rw [← bat_take (l := l) (j := j) (i := 1) (by omega)]; exact c h
    · rw [← bat_take (l := l) (j := j) (i := 2) (by omega)]; exact d h
    · rw [← bat_take (l := l) (j := j) (i := 3) (by omega)]; exact e h
  · rintro ⟨⟨a, b, c, d, e⟩, f⟩
    refine ⟨a, f, fun h => ?_, fun h => ?_, fun h => ?_⟩
    · rw [bat_take (by omega)]; exact c h
    · rw [bat_take (by omega)]; exact d h
    · rw [bat_take (by omega)]; exact e h
theorem part_take {l : List UInt8} {j : Nat} (h1 : 1 ≤ j) (hj : j ≤ l.length) : PartU (l.take j).length (bat (l.take j) 0) (bat (l.take j) 1) (bat (l.take j) 2) ↔ PartU j (bat l 0) (bat l 1) (bat l 2) := by
  have hlen : (l.take j).length = j := by rw [List.length_take]; omega
  have e0 : bat (l.take j) 0 = bat l 0 := bat_take (by omega)
  unfold PartU
  rw [hlen, e0]
  constructor
  · rintro ⟨a, b, c⟩
    refine ⟨a, fun h => ?_, fun h => ?_⟩
    · rw [← bat_take (l := l) (j := j) (i := 1) (by omega)]; exact b h
    · rw [← bat_take (l := l) (j := j) (i := 2) (by omega)]; exact c h
  · rintro ⟨a, b, c⟩
    refine ⟨a, fun h => ?_, fun h => ?_⟩
    · rw [bat_take (by omega)]; exact b h
    · rw [bat_take (by omega)]; exact c h
theorem part_not_done {m b0 b1 b2 b3 : Nat} (h : PartU m b0 b1 b2) : ¬ DoneU m b0 b1 b2 b3 := by
  unfold PartU at h; unfold DoneU; omega
theorem done_part {m j b0 b1 b2 b3 : Nat} (h : DoneU m b0 b1 b2 b3) (hj : j < longB b0) : PartU j b0 b1 b2 := by
  unfold DoneU at h; unfold PartU
  exact ⟨hj, fun h' => h.2.2.1 (by omega), fun h' => h.2.2.2.1 (by omega)⟩
theorem part_less {j k b0 b1 b2 : Nat} (h : PartU k b0 b1 b2) (hj : j ≤ k) : PartU j b0 b1 b2 := by
  unfold PartU at h ⊢
  exact ⟨by omega, fun h' => h.2.1 (by omega), fun h' => h.2.2 (by omega)⟩
theorem long_le (b : Nat) : longB b ≤ 4 := by unfold longB; (repeat' split) <;> omega
/-- A byte of a plain encoding that is not yet whole. -/
def plainB (c : UInt8) : Prop := c ≠ 34 ∧ c ≠ 92 ∧ ¬ c.toNat < 32
theorem take_plain {Q : UQ} {c : UInt8} (hs : Q.st = 1) (h : Q.ru ≠ [] ∨ plainB c) : takeQ Q c = plainQ Q c := by
  unfold takeQ beginQ
  rw [hs, if_neg (by decide), if_pos rfl]
  by_cases hr : Q.ru = []
  · rcases h with h | ⟨h1, h2, h3⟩
    · exact absurd hr h
    · rw [if_neg (by simpa using hr), if_neg h1, if_neg h2, if_neg h3]
  · rw [if_pos hr]
theorem take_snoc' {l : List UInt8} {j : Nat} {c : UInt8} {t : List UInt8} (h : l.drop j = c :: t) : l.take j ++ [c] = l.take (j + 1) ∧ l.drop (j + 1) = t ∧ j < l.length := by
  have hj : j < l.length := by
    rcases Nat.lt_or_ge j l.length with h' | h'
    · exact h'
    · rw [List.drop_of_length_le h'] at h; cases h
  have h2 : l[j] = c := by
    have := List.drop_eq_getElem_cons hj
    rw [h] at this
    exact ((List.cons.inj this).1).symm
  refine ⟨?_, ?_, hj⟩
  · rw [List.take_succ_eq_append_getElem hj, h2]
  · have := List.drop_eq_getElem_cons hj
    rw [h] at this
    exact ((List.cons.inj this).2).symm
/-- The reader over bytes that are a proper prefix of an encoding. -/
theorem run_part {l : List UInt8} {Q : UQ} (hs : Q.st = 1) (hp : ∀ c, l.head? = some c → plainB c) : ∀ (d j : Nat) (i : Int), Q.ru = l.take j → j + d ≤ l.length → (1 ≤ d → PartU (j + d) (bat l 0) (bat l 1) (bat l 2)) →
    uqRun Q i (l.drop j) = uqRun { Q with ru := l.take (j + d) } (i + d) (l.drop (j + d))
  | 0, j, i, hr, hd, hk => by
    rw [Nat.add_zero, ← hr, Int.natCast_zero, Int.add_zero]
  | d + 1, j, i, hr, hd, hk => by
    cases hx : l.drop j with
    | nil =>
      have := congrArg List.length hx
      rw [List.length_drop, List.length_nil] at this
      omega
    | cons c t =>
      obtain ⟨e1, e2, e3⟩ := take_snoc' hx
      have hpk := hk (by omega)
      have hp1 : PartU (j + 1) (bat l 0) (bat l 1) (bat l 2) := part_less hpk (by omega)
      have hne : l.take (j + 1) ≠ [] := by
        intro he
        have := congrArg List.length he
        rw [List.length_take, List.length_nil] at this
        omega
      have hpt := (part_take (l := l) (j := j + 1) (by omega) (by omega)).2 hp1
      have hnd := part_not_done (b3 := bat (l.take (j + 1)) 3) hpt
      have hq : takeQ Q c = .ok { Q with ru := l.take (j + 1) } := by
        rw [take_plain hs]
        · unfold plainQ
          rw [hr, e1, if_neg (by rw [isU_iff hne]; exact hnd), if_neg (by rw [(full_iff hne hnd).2 hpt]; decide)]
        · cases j with
          | zero => exact .inr (hp c (by rw [List.drop_zero] at hx; rw [hx]; rfl))
          | succ j =>
            left
            rw [hr]
            intro he
            have := congrArg List.length he
            rw [List.length_take, List.length_nil] at this
            omega
      rw [uqRun, hq]
      dsimp only
      rw [if_neg (show ¬ Q.st = 7 by rw [hs]; decide), ← e2, run_part (Q := { Q with ru := l.take (j + 1) }) hs hp d (j + 1) (i + 1) rfl (by omega) (fun _ => by rw [show j + 1 + d = j + (d + 1) by omega]; exact hpk)]
      dsimp only
      rw [show j + 1 + d = j + (d + 1) by omega]
      congr 1
      push_cast; omega
theorem run_done {l : List UInt8} {Q : UQ} (hs : Q.st = 1) (hr : Q.ru = []) (hp : ∀ c, l.head? = some c → plainB c) (hd : DoneU l.length (bat l 0) (bat l 1) (bat l 2) (bat l 3)) (i : Int) :
    uqRun Q i l = uqRun { Q with out := Q.out ++ l.take (longB (bat l 0)) } (i + longB (bat l 0)) (l.drop (longB (bat l 0))) := by
  have h1 : 1 ≤ longB (bat l 0) := hd.1
  have h2 : longB (bat l 0) ≤ l.length := hd.2.1
  obtain ⟨d, hdn⟩ : ∃ d, longB (bat l 0) = d + 1 := ⟨longB (bat l 0) - 1, by omega⟩
  have hrun := run_part hs hp d 0 i (by rw [hr]; rfl) (by omega) (fun h => by rw [Nat.zero_add]; exact done_part hd (by omega))
  rw [List.drop_zero, Nat.zero_add] at hrun
  rw [hrun]
  cases hx : l.drop d with
  | nil =>
    have := congrArg List.length hx
    rw [List.length_drop, List.length_nil] at this
    omega
  | cons c t =>
    obtain ⟨e1, e2, e3⟩ := take_snoc' hx
    have hne : l.take (d + 1) ≠ [] := by
      intro he
      have := congrArg List.length he
      rw [List.length_take, List.length_nil] at this
      omega
    have hdt := (done_take (l := l) (j := d + 1) (by omega) (by omega)).2 ⟨hd, by omega⟩
    have hdl := decL_done hne hdt
    rw [bat_take (by omega)] at hdl
    have hq : takeQ { Q with ru := l.take d } c = .ok { Q with out := Q.out ++ l.take (d + 1), ru := [] } := by
      rw [take_plain (Q := { Q with ru := l.take d }) hs]
      · unfold plainQ
        dsimp only
        rw [e1, if_pos ((isU_iff hne).2 hdt), hdl]
        dsimp only
        rw [hdn, List.take_take, Nat.min_self]
      · cases d with
        | zero => exact .inr (hp c (by rw [List.drop_zero] at hx; rw [hx]; rfl))
        | succ d =>
          left
          dsimp only
          intro he
          have := congrArg List.length he
          rw [List.length_take, List.length_nil] at this
          omega
    rw [uqRun, hq]
    dsimp only
    rw [if_neg (show ¬ Q.st = 7 by rw [hs]; decide), hdn, e2, hr]
    congr 1
    push_cast; omega
theorem rK_spec {l : List UInt8} : ∀ (r k : Nat), k ≤ l.length → (1 ≤ k → PartU k (bat l 0) (bat l 1) (bat l 2)) → k ≤ rK l r k ∧ rK l r k ≤ l.length ∧ (1 ≤ rK l r k → PartU (rK l r k) (bat l 0) (bat l 1) (bat l 2)) ∧
    (rK l r k < k + r → rK l r k < l.length → ¬ PartU (rK l r k + 1) (bat l 0) (bat l 1) (bat l 2))
  | 0, k, h, hp => ⟨Nat.le_refl _, h, hp, fun h1 => by unfold rK at h1; omega⟩
  | r + 1, k, h, hp => by
    rw [rK]
    by_cases hc : k < l.length ∧ PartU (k + 1) (bat l 0) (bat l 1) (bat l 2)
    · rw [if_pos hc]
      obtain ⟨g1, g2, g3, g4⟩ := rK_spec r (k + 1) hc.1 (fun _ => hc.2)
      exact ⟨by omega, g2, g3, fun h1 h2 => g4 (by omega) h2⟩
    · rw [if_neg hc]
      exact ⟨Nat.le_refl _, h, hp, fun _ h2 hp2 => hc ⟨h2, hp2⟩⟩
theorem run_bad {l : List UInt8} {Q : UQ} (hs : Q.st = 1) (hr : Q.ru = []) (hp : ∀ c, l.head? = some c → plainB c) (hd : ¬ DoneU l.length (bat l 0) (bat l 1) (bat l 2) (bat l 3)) (i : Int) :
    uqRun Q i l = rWrong l i (rK l 4 0) 40 := by
  obtain ⟨-, g2, g3, g4⟩ := rK_spec (l := l) 4 0 (Nat.zero_le _) (fun h => by omega)
  generalize rK l 4 0 = k at *
  have hrun := run_part hs hp k 0 i (by rw [hr]; rfl) (by omega) (fun h => by rw [Nat.zero_add]; exact g3 h)
  rw [List.drop_zero, Nat.zero_add] at hrun
  rw [hrun]
  unfold rWrong
  by_cases hk : l.length ≤ k
  · have : k = l.length := by omega
    subst this
    rw [if_pos (Nat.le_refl _), List.drop_of_length_le (Nat.le_refl _), uqRun]
  · rw [if_neg hk]
    have hk4 : k < 4 := by
      rcases Nat.lt_or_ge k 4 with h | h
      · exact h
      · have := (g3 (by omega)).1
        have := long_le (bat l 0)
        omega
    have hnp := g4 (by omega) (by omega)
    cases hx : l.drop k with
    | nil =>
      have := congrArg List.length hx
      rw [List.length_drop, List.length_nil] at this
      omega
    | cons c t =>
      obtain ⟨e1, e2, e3⟩ := take_snoc' hx
      have hne : l.take (k + 1) ≠ [] := by
        intro he
        have := congrArg List.length he
        rw [List.length_take, List.length_nil] at this
        omega
      have hdt : ¬ DoneU (l.take (k + 1)).length (bat (l.take (k + 1)) 0) (bat (l.take (k + 1)) 1) (bat (l.take (k + 1)) 2) (bat (l.take (k + 1)) 3) := fun h => hd ((done_take (by omega) (by omega)).1 h).1
      have hft : fullU (l.take (k + 1)) = true := by
        cases hf : fullU (l.take (k + 1)) with
        | true => rfl
        | false => exact absurd ((part_take (by omega) (by omega)).1 ((full_iff hne hdt).1 hf)) hnp
      have hq : takeQ { Q with ru := l.take k } c = .error 40 := by
        rw [take_plain (Q := { Q with ru := l.take k }) hs]
        · unfold plainQ
          dsimp only
          rw [e1, if_neg (by rw [isU_iff hne]; exact hdt), if_pos hft]
        · cases k with
          | zero => exact .inr (hp c (by rw [List.drop_zero] at hx; rw [hx]; rfl))
          | succ k =>
            left
            dsimp only
            intro he
            have := congrArg List.length he
            rw [List.length_take, List.length_nil] at this
            omega
      rw [uqRun, hq]
end Go.Proofs.YtgdhepoffnpgiaaGreatDoor
