/- Plain laws for LexBlanks: words between blanks are lexed as they are spelt. No program here. -/
import Derived.Test.YtgdhepoffnpgiaaDoorNd
import Derived.Lib.ItoaLen
namespace Go.Proofs.YtgdhepoffnpgiaaDoor
set_option linter.unusedVariables false
set_option linter.unusedSimpArgs false
/-- A word: its token (without place) and its spelling. -/
structure Word where
  t : Tok
  x : List UInt8
/-- The word's token at a place. -/
def Word.at_ (W : Word) (a : Int) : Tok := ⟨W.t.kind, a, a + W.x.length, W.t.n, W.t.u, W.t.text⟩
structure WordOk (W : Word) : Prop where
  k : 1 ≤ W.t.kind ∧ W.t.kind ≤ 12
  f : W.t.from_ = 0 ∧ W.t.to_ = 0
  l : 1 ≤ W.x.length ∧ W.x.length ≤ 24
  h : headB blankB W.x = false
  tok : ∀ (y : List UInt8) (a : Int), headB blankB y = true → tokM (W.x ++ y) a = (W.at_ a, 0)
theorem blank_head {y : List UInt8} (h : headB blankB y = true) : headB digB y = false ∧ headB (· == 46) y = false ∧ headB expB y = false := by
  cases y with
  | nil => cases h
  | cons c t =>
    have hall : ∀ n : Fin 256, blankB (UInt8.ofNat n.val) = true → digB (UInt8.ofNat n.val) = false ∧ (UInt8.ofNat n.val == 46) = false ∧ expB (UInt8.ofNat n.val) = false := by decide +kernel
    have := hall ⟨c.toNat, c.toNat_lt⟩ (by simpa [headB] using h)
    simpa [headB] using this
theorem common_self : ∀ (w y : List UInt8), commonN w (w ++ y) = w.length
  | [], y => by cases y <;> rfl
  | c :: w, y => by
    rw [List.cons_append, commonN, if_pos rfl, common_self w y]
    rfl
theorem fixed_ok {c : UInt8} {w : List UInt8} {k : Int} (hs : spellW c = some (c :: w, k)) (hk : 1 ≤ k ∧ k ≤ 12) (hl : (c :: w).length ≤ 24) (hb : blankB c = false) : WordOk ⟨⟨k, 0, 0, 0, 0, []⟩, c :: w⟩ := by
  refine ⟨hk, ⟨rfl, rfl⟩, ⟨by simp, hl⟩, by simpa [headB] using hb, fun y a _ => ?_⟩
  show tokM (c :: (w ++ y)) a = _
  rw [tokM, hs]
  dsimp only
  unfold wordM
  rw [show c :: (w ++ y) = (c :: w) ++ y from rfl, common_self, if_pos rfl]
  rfl
theorem tok_num (neg : Bool) {x y : List UInt8} (a : Int) (h : WholeOk x y) (h1 : headB (· == 46) y = false) (h2 : headB expB y = false) :
    tokM ((if neg = true then [45] else []) ++ (x ++ y)) a = intT neg (valU x) a (a + (((if neg = true then [45] else [] : List UInt8).length + x.length : Nat) : Int)) := by
  have hd := h.dig
  have hne := h.ne
  obtain ⟨c, t, hct⟩ : ∃ c t, x = c :: t := by
    cases x with
    | nil => exact absurd rfl hne
    | cons c t => exact ⟨c, t, rfl⟩
  have hdc : digB c = true := by rw [hct] at hd; simpa [headB] using hd
  have hspell : ∀ c : UInt8, digB c = true ∨ c = 45 → spellW c = none ∧ c ≠ 34 ∧ blankB c = false := by
    have hall : ∀ n : Fin 256, (digB (UInt8.ofNat n.val) = true ∨ UInt8.ofNat n.val = 45) → spellW (UInt8.ofNat n.val) = none ∧ UInt8.ofNat n.val ≠ 34 ∧ blankB (UInt8.ofNat n.val) = false := by decide +kernel
    intro c hc
    have := hall ⟨c.toNat, c.toNat_lt⟩ (by simpa using hc)
    simpa using this
  have hn := num_app neg a h
  have hF : numF neg (valU x) y ((if neg = true then [45] else [] : List UInt8).length + x.length) a = intT neg (valU x) a (a + (((if neg = true then [45] else [] : List UInt8).length + x.length : Nat) : Int)) := by
    unfold numF numE
    rw [if_neg (by rw [h1]; exact Bool.false_ne_true), if_neg (by rw [h2]; exact Bool.false_ne_true), if_neg Bool.false_ne_true]
  rw [hF] at hn
  rw [← hn]
  obtain ⟨c0, t0, hl0, hc0⟩ : ∃ c0 t0, (if neg = true then [45] else [] : List UInt8) ++ (x ++ y) = c0 :: t0 ∧ (digB c0 = true ∨ c0 = 45) := by
    cases neg with
    | true => exact ⟨45, x ++ y, rfl, .inr rfl⟩
    | false => exact ⟨c, t ++ y, by rw [hct]; rfl, .inl hdc⟩
  obtain ⟨e1, e2, e3⟩ := hspell c0 hc0
  rw [hl0, tokM, e1]
  dsimp only
  rw [if_neg e2, if_pos (by rcases hc0 with h | h; exact .inr h; exact .inl h)]
theorem dec_len20 {u : Nat} (hu : u < 2 ^ 64) : 1 ≤ (Lib.decDigits u).length ∧ (Lib.decDigits u).length ≤ 20 := by
  rw [Lib.decDigits_length]
  refine ⟨?_, Lib.nDigits_le20 u hu⟩
  have := (dec_facts u u (Nat.le_refl _)).2.2.1
  have h2 : 0 < (Lib.decDigits u).length := List.length_pos_iff.2 this
  rw [Lib.decDigits_length] at h2
  exact h2
theorem dec_nb (u : Nat) : headB blankB (Lib.decDigits u) = false := by
  obtain ⟨-, h2, h3, -⟩ := dec_facts u u (Nat.le_refl _)
  cases hx : Lib.decDigits u with
  | nil => rfl
  | cons c t =>
    rw [hx] at h2
    have hd := h2 c (by simp)
    have hall : ∀ n : Fin 256, digB (UInt8.ofNat n.val) = true → blankB (UInt8.ofNat n.val) = false := by decide +kernel
    have := hall ⟨c.toNat, c.toNat_lt⟩ (by simpa using hd)
    simpa [headB] using this
theorem uint_ok {u : Nat} (h0 : 2 ^ 63 ≤ u) (h1 : u < 2 ^ 64) : WordOk ⟨⟨11, 0, 0, 0, u, []⟩, Lib.decDigits u⟩ := by
  obtain ⟨l0, l1⟩ := dec_len20 h1
  refine ⟨⟨by show (1 : Int) ≤ 11; decide, by show (11 : Int) ≤ 12; decide⟩, ⟨rfl, rfl⟩, ⟨l0, by show (Lib.decDigits u).length ≤ 24; omega⟩, dec_nb u, fun y a hy => ?_⟩
  obtain ⟨b1, b2, b3⟩ := blank_head hy
  have := tok_num false a (dec_whole u y (.inr b1)) b2 b3
  rw [(dec_facts u u (Nat.le_refl _)).1] at this
  simp only [Bool.false_eq_true, if_false, List.nil_append, List.length_nil, Nat.zero_add] at this
  rw [this]
  unfold intT
  rw [if_neg (by rintro (g | ⟨g, -⟩); omega; cases g), if_neg Bool.false_ne_true, if_pos h0]
  rfl
theorem int_ok {n : Int} (h0 : -9223372036854775808 ≤ n) (h1 : n ≤ 9223372036854775807) : WordOk ⟨⟨10, 0, 0, n, 0, []⟩, Lib.itoa n⟩ := by
  rcases Int.lt_or_le n 0 with hn | hn
  · obtain ⟨u, hu⟩ : ∃ u : Nat, n = -(u : Int) := ⟨n.natAbs, by omega⟩
    have hi : Lib.itoa n = 45 :: Lib.decDigits u := by
      unfold Lib.itoa
      rw [if_pos hn]
      congr 2
      omega
    rw [hi]
    obtain ⟨l0, l1⟩ := dec_len20 (u := u) (by omega)
    refine ⟨⟨by show (1 : Int) ≤ 10; decide, by show (10 : Int) ≤ 12; decide⟩, ⟨rfl, rfl⟩, ⟨by simp, by simp only [List.length_cons]; omega⟩, rfl, fun y a hy => ?_⟩
    obtain ⟨b1, b2, b3⟩ := blank_head hy
    have := tok_num true a (dec_whole u y (.inr b1)) b2 b3
    rw [(dec_facts u u (Nat.le_refl _)).1] at this
    simp only [if_true] at this
    show tokM ([45] ++ (Lib.decDigits u ++ y)) a = _
    rw [this]
    unfold intT
    rw [if_neg (by rintro (g | ⟨-, g⟩) <;> omega), if_pos rfl]
    unfold Word.at_
    dsimp only
    rw [hu]
    simp only [List.length_cons, List.length_nil, Prod.mk.injEq, Tok.mk.injEq, and_true, true_and]
    omega
  · obtain ⟨u, rfl⟩ : ∃ u : Nat, n = (u : Int) := ⟨n.toNat, by omega⟩
    have hi : Lib.itoa (u : Int) = Lib.decDigits u := by
      unfold Lib.itoa
      rw [if_neg (by omega)]
      congr 1
    rw [hi]
    obtain ⟨l0, l1⟩ := dec_len20 (u := u) (by omega)
    refine ⟨⟨by show (1 : Int) ≤ 10; decide, by show (10 : Int) ≤ 12; decide⟩, ⟨rfl, rfl⟩, ⟨l0, by show (Lib.decDigits u).length ≤ 24; omega⟩, dec_nb u, fun y a hy => ?_⟩
    obtain ⟨b1, b2, b3⟩ := blank_head hy
    have := tok_num false a (dec_whole u y (.inr b1)) b2 b3
    rw [(dec_facts u u (Nat.le_refl _)).1] at this
    simp only [Bool.false_eq_true, if_false, List.nil_append, List.length_nil, Nat.zero_add] at this
    rw [this]
    unfold intT
    rw [if_neg (by rintro (g | ⟨g, -⟩); omega; cases g), if_neg Bool.false_ne_true, if_neg (by omega)]
    rfl
/-- The seven texts and their literals. -/
def txtL : List (List UInt8) := [[], [97], [34], [92], [195, 169, 10], [32, 120], [110, 117, 108, 108]]
def quoL : List (List UInt8) := [[34, 34], [34, 97, 34], [34, 92, 34, 34], [34, 92, 92, 34], [34, 195, 169, 92, 110, 34], [34, 32, 120, 34], [34, 110, 117, 108, 108, 34]]
theorem quo_unq {j : Nat} (hj : j < 7) (y : List UInt8) : unqM (quoL.getD j [] ++ y) = (txtL.getD j [], ((quoL.getD j []).length : Int), 0, 0) := by
  have : j = 0 ∨ j = 1 ∨ j = 2 ∨ j = 3 ∨ j = 4 ∨ j = 5 ∨ j = 6 := by omega
  rcases this with rfl | rfl | rfl | rfl | rfl | rfl | rfl <;> rfl
theorem text_ok {j : Nat} (hj : j < 7) : WordOk ⟨⟨12, 0, 0, 0, 0, txtL.getD j []⟩, quoL.getD j []⟩ := by
  have hh : ∃ t, quoL.getD j [] = 34 :: t ∧ t.length ≤ 6 := by
    have : j = 0 ∨ j = 1 ∨ j = 2 ∨ j = 3 ∨ j = 4 ∨ j = 5 ∨ j = 6 := by omega
    rcases this with rfl | rfl | rfl | rfl | rfl | rfl | rfl <;> exact ⟨_, rfl, by decide⟩
  have hu := quo_unq hj
  generalize quoL.getD j [] = q at *
  obtain ⟨t, rfl, ht⟩ := hh
  refine ⟨⟨by show (1 : Int) ≤ 12; decide, by show (12 : Int) ≤ 12; decide⟩, ⟨rfl, rfl⟩, ⟨by simp, by simp only [List.length_cons]; omega⟩, rfl, fun y a _ => ?_⟩
  have := hu y
  show tokM (34 :: (t ++ y)) a = _
  rw [tokM]
  have hs : spellW 34 = none := by decide
  rw [hs]
  dsimp only
  rw [if_pos rfl]
  unfold litM
  rw [show 34 :: (t ++ y) = (34 :: t) ++ y from rfl, this]
  dsimp only
  rw [if_neg (by simp)]
  rfl
/-- A word behind some blanks. -/
structure BW where
  b : List UInt8
  w : Word
def BWok (z : BW) : Prop := (∀ c ∈ z.b, blankB c = true) ∧ 1 ≤ z.b.length ∧ z.b.length ≤ 4 ∧ WordOk z.w
def cat : List BW → List UInt8
  | [] => []
  | z :: r => (z.b ++ z.w.x) ++ cat r
def wantL : Nat → List BW → List Tok
  | _, [] => []
  | e, z :: r => z.w.at_ ((e + z.b.length : Nat) : Int) :: wantL (e + z.b.length + z.w.x.length) r
theorem cat_snoc (z : BW) : ∀ r : List BW, cat (r ++ [z]) = cat r ++ (z.b ++ z.w.x)
  | [] => by simp [cat]
  | y :: r => by rw [List.cons_append, cat, cat_snoc z r, cat, List.append_assoc (y.b ++ y.w.x)]
theorem want_snoc (z : BW) : ∀ (r : List BW) (e : Nat), wantL e (r ++ [z]) = wantL e r ++ [z.w.at_ ((e + (cat r).length + z.b.length : Nat) : Int)]
  | [], e => by simp [wantL, cat]
  | y :: r, e => by
    rw [List.cons_append, wantL, want_snoc z r, wantL, List.cons_append]
    congr 4
    rw [cat, List.length_append, List.length_append]
    omega
theorem want_len : ∀ (r : List BW) (e : Nat), (wantL e r).length = r.length
  | [], _ => rfl
  | y :: r, e => by rw [wantL, List.length_cons, want_len r, List.length_cons]
theorem cat_blank {ws : List BW} (h : ∀ z ∈ ws, BWok z) : headB blankB (cat ws ++ [10]) = true := by
  cases ws with
  | nil => rfl
  | cons z r =>
    obtain ⟨h1, h2, -, -⟩ := h z (by simp)
    rw [cat]
    cases hb : z.b with
    | nil => rw [hb] at h2; simp at h2
    | cons c t =>
      have := h1 c (by rw [hb]; simp)
      simpa [headB] using this
theorem blanks_pre : ∀ {b y : List UInt8}, (∀ c ∈ b, blankB c = true) → headB blankB y = false → blanksN (b ++ y) = b.length
  | [], y, _, h => by
    cases y with
    | nil => rfl
    | cons c t =>
      have : blankB c = false := by simpa [headB] using h
      show ((c :: t).takeWhile blankB).length = 0
      rw [List.takeWhile_cons, this]
      rfl
  | c :: b, y, hb, h => by
    have ih := blanks_pre (b := b) (y := y) (fun x hx => hb x (by simp [hx])) h
    unfold blanksN at ih ⊢
    rw [List.cons_append, List.takeWhile_cons, hb c (by simp), if_pos rfl, List.length_cons, ih, List.length_cons]
theorem next_word {pre y : List UInt8} {z : BW} (hz : BWok z) (hy : headB blankB y = true) : nextM (pre ++ ((z.b ++ z.w.x) ++ y)) pre.length = (z.w.at_ ((pre.length + z.b.length : Nat) : Int), 0) := by
  obtain ⟨h1, h2, h3, h4⟩ := hz
  have hd : (pre ++ ((z.b ++ z.w.x) ++ y)).drop pre.length = z.b ++ (z.w.x ++ y) := by rw [List.drop_left, List.append_assoc]
  have hx : headB blankB (z.w.x ++ y) = false := by
    have := h4.h
    have hl := h4.l.1
    cases hc : z.w.x with
    | nil => rw [hc] at hl; simp at hl
    | cons c t => rw [hc] at this; simpa [headB] using this
  unfold nextM
  rw [if_neg (by rw [List.length_append]; omega), Int.toNat_natCast, hd, blanks_pre h1 hx, List.drop_left, h4.tok y _ hy]
  rfl
theorem allN_words : ∀ (ws : List BW) (pre : List UInt8) (f : Nat) (acc : List Tok), (∀ z ∈ ws, BWok z) → ws.length < f → allN (pre ++ (cat ws ++ [10])) f pre.length acc = (acc ++ wantL pre.length ws, 0, 0)
  | [], pre, f, acc, _, hf => by
    obtain ⟨f, rfl⟩ : ∃ g, f = g + 1 := ⟨f - 1, by omega⟩
    have hn : nextM (pre ++ (cat [] ++ [10])) pre.length = (⟨0, (pre.length : Int) + 1, (pre.length : Int) + 1, 0, 0, []⟩, 0) := by
      unfold nextM
      rw [if_neg (by rw [List.length_append]; omega), Int.toNat_natCast, List.drop_left]
      rfl
    rw [allN, hn, if_neg (fun h => h rfl), if_pos rfl, wantL, List.append_nil]
  | z :: r, pre, f, acc, h, hf => by
    obtain ⟨f, rfl⟩ : ∃ g, f = g + 1 := ⟨f - 1, by rw [List.length_cons] at hf; omega⟩
    have hz := h z (by simp)
    have hr : ∀ y ∈ r, BWok y := fun y hy => h y (by simp [hy])
    have hn := next_word (pre := pre) (y := cat r ++ [10]) hz (cat_blank hr)
    have e : pre ++ (cat (z :: r) ++ [10]) = pre ++ ((z.b ++ z.w.x) ++ (cat r ++ [10])) := by rw [cat, List.append_assoc (z.b ++ z.w.x)]
    have hk := hz.2.2.2.k.1
    rw [e, allN, hn, if_neg (fun h => h rfl), if_neg (show ¬ (z.w.at_ ((pre.length + z.b.length : Nat) : Int)).kind = 0 by show ¬ z.w.t.kind = 0; omega)]
    have ih := allN_words r (pre ++ (z.b ++ z.w.x)) f (acc ++ [z.w.at_ ((pre.length + z.b.length : Nat) : Int)]) hr (by rw [List.length_cons] at hf; omega)
    have hl : (pre ++ (z.b ++ z.w.x)).length = pre.length + z.b.length + z.w.x.length := by rw [List.length_append, List.length_append]; omega
    rw [hl] at ih
    have hto : (z.w.at_ ((pre.length + z.b.length : Nat) : Int)).to_ = ((pre.length + z.b.length + z.w.x.length : Nat) : Int) := by show ((pre.length + z.b.length : Nat) : Int) + (z.w.x.length : Int) = _; push_cast; rfl
    have e2 : pre ++ ((z.b ++ z.w.x) ++ (cat r ++ [10])) = (pre ++ (z.b ++ z.w.x)) ++ (cat r ++ [10]) := (List.append_assoc _ _ _).symm
    rw [e2, hto, ih, wantL]
    refine Prod.ext ?_ rfl
    show (acc ++ [_]) ++ _ = acc ++ (_ :: _)
    rw [List.append_assoc]
    rfl
theorem cat_len {ws : List BW} (h : ∀ z ∈ ws, BWok z) : ws.length ≤ (cat ws).length ∧ (cat ws).length ≤ 28 * ws.length := by
  induction ws with
  | nil => simp [cat]
  | cons z r ih =>
    obtain ⟨h1, h2⟩ := ih (fun y hy => h y (by simp [hy]))
    obtain ⟨-, g2, g3, g4⟩ := h z (by simp)
    have := g4.l
    rw [cat, List.length_append, List.length_append, List.length_cons]
    omega
/-- White space between tokens affects only offsets. -/
theorem blanks_law {ws : List BW} (h : ∀ z ∈ ws, BWok z) (hn : ws.length ≤ 30) : allM (cat ws ++ [10]) = (wantL 0 ws, 0, 0) := by
  have hl := cat_len h
  unfold allM
  rw [if_neg (by rw [List.length_append, List.length_singleton]; omega)]
  have := allN_words ws [] ((cat ws ++ [10]).length + 1) [] h (by rw [List.length_append, List.length_singleton]; omega)
  exact this
end Go.Proofs.YtgdhepoffnpgiaaDoor
