/- Plain: tokens of a text that stands within another. Plain: a parsed text's value is read alike within a longer text. Plain: a list of parsed texts, joined, is a text of the list of their trees. -/
import Derived.Test.YtccmhhmdenfecaaGreatDoorJq
namespace Go.Proofs.YtccmhhmdenfecaaGreatDoor
set_option linter.unusedVariables false
set_option linter.unusedSimpArgs false
section
/-- What may stand behind a number without being read with it. -/
def stopZ (z : List UInt8) : Prop := headB digB z = false ∧ headB (· == 46) z = false ∧ headB expB z = false
theorem head_ext {p : UInt8 → Bool} {y z : List UInt8} (hy : headB p y = false) (hz : headB p z = false) : headB p (y ++ z) = false := by
  cases y with
  | nil => exact hz
  | cons c y => exact hy
theorem common_ext : ∀ (w l z : List UInt8), commonN w l = w.length → commonN w (l ++ z) = w.length
  | [], l, z, _ => by cases l <;> cases z <;> rfl
  | a :: w, [], z, h => by simp [commonN] at h
  | a :: w, b :: l, z, h => by
    rw [List.cons_append]
    rw [commonN] at h ⊢
    split at h
    · rename_i e
      rw [if_pos e, common_ext w l z (by simpa using h)]
      rfl
    · simp at h
theorem uq_ext (z : List UInt8) : ∀ (l : List UInt8) (Q : UQ) (i : Int), (uqRun Q i l).2.2.2 = 0 → uqRun Q i (l ++ z) = uqRun Q i l
  | [], Q, i, h => by simp [uqRun] at h
  | c :: l, Q, i, h => by
    rw [List.cons_append]
    rw [uqRun] at h ⊢
    rw [uqRun]
    cases hq : takeQ Q c with
    | error e => rfl
    | ok Q' =>
      rw [hq] at h
      dsimp only at h ⊢
      by_cases h7 : Q'.st = 7
      · rw [if_pos h7, if_pos h7]
      · rw [if_neg h7] at h
        rw [if_neg h7, if_neg h7]
        exact uq_ext z l Q' (i + 1) h
theorem digs_ext {z : List UInt8} (hz : headB digB z = false) : ∀ (l : List UInt8), digs (l ++ z) = digs l
  | [] => by rw [List.nil_append, digs_zero.2 hz]; rfl
  | c :: l => by
    by_cases h : digB c = true
    · have e1 : digs (c :: l) = digs l + 1 := by simp [digs, List.takeWhile_cons, h]
      have e2 : digs (c :: (l ++ z)) = digs (l ++ z) + 1 := by simp [digs, List.takeWhile_cons, h]
      rw [List.cons_append, e2, e1, digs_ext hz l]
    · have e1 : digs (c :: l) = 0 := by simp [digs, List.takeWhile_cons, h]
      have e2 : digs (c :: (l ++ z)) = 0 := by simp [digs, List.takeWhile_cons, h]
      rw [List.cons_append, e2, e1]
theorem numF_ext {neg : Bool} {u : Nat} {y z : List UInt8} {k : Nat} {a : Int} (h : (numF neg u y k a).2 = 0) (hz : stopZ z) : numF neg u (y ++ z) k a = numF neg u y k a := by
  by_cases h46 : headB (· == 46) y = true
  · exfalso
    unfold numF at h
    rw [if_pos h46] at h
    split at h
    · simp [wrongT] at h
    · unfold numE at h
      split at h
      · split at h <;> simp [wrongT] at h
      · rw [if_pos rfl] at h
        simp [wrongT] at h
  · have h46' : headB (· == 46) y = false := by simpa using h46
    by_cases he : headB expB y = true
    · exfalso
      unfold numF at h
      rw [if_neg h46] at h
      unfold numE at h
      rw [if_pos he] at h
      split at h <;> simp [wrongT] at h
    · have he' : headB expB y = false := by simpa using he
      unfold numF
      rw [if_neg h46, if_neg (by rw [head_ext h46' hz.2.1]; decide)]
      unfold numE
      rw [if_neg he, if_neg (by rw [head_ext he' hz.2.2]; decide)]
theorem whole_le (r : List UInt8) (h : r ≠ []) : wholeN r ≤ r.length := by
  unfold wholeN
  split
  · cases r with
    | nil => exact absurd rfl h
    | cons c r => simp
  · exact digs_le r
theorem num_ext {l z : List UInt8} {a : Int} (h : (numM l a).2 = 0) (hz : stopZ z) : numM (l ++ z) a = numM l a := by
  unfold numM at h
  split at h
  · simp [wrongT] at h
  rename_i hw
  have hl : l ≠ [] := by
    rintro rfl
    exact hw rfl
  obtain ⟨c, t, rfl⟩ := List.exists_cons_of_ne_nil hl
  have hs : signN (c :: t ++ z) = signN (c :: t) := rfl
  have hsl : signN (c :: t) ≤ (c :: t).length := by unfold signN; split <;> simp
  have hd : (c :: t ++ z).drop (signN (c :: t)) = (c :: t).drop (signN (c :: t)) ++ z := List.drop_append_of_le_length hsl
  have hr : (c :: t).drop (signN (c :: t)) ≠ [] := by
    intro e
    rw [e] at hw
    exact hw rfl
  have hwe : wholeN ((c :: t).drop (signN (c :: t)) ++ z) = wholeN ((c :: t).drop (signN (c :: t))) := by
    unfold wholeN
    rw [head_app hr, digs_ext hz.1]
  have hwl := whole_le _ hr
  have hneg : headB (· == 45) (c :: t ++ z) = headB (· == 45) (c :: t) := rfl
  unfold numM
  rw [hs, hd, hwe, if_neg hw, if_neg hw, List.take_append_of_le_length hwl, List.drop_append_of_le_length hwl, hneg]
  exact numF_ext h hz
theorem tok_ext {l z : List UInt8} {a : Int} (h0 : (tokM l a).2 = 0) (h1 : (tokM l a).1.kind ≠ 0) (hz : stopZ z) : tokM (l ++ z) a = tokM l a := by
  cases l with
  | nil => exact absurd rfl h1
  | cons c t =>
    rw [List.cons_append]
    simp only [tokM] at h0 ⊢
    cases hs : spellW c with
    | some wk =>
      obtain ⟨w, k⟩ := wk
      rw [hs] at h0
      dsimp only at h0 ⊢
      unfold wordM at h0 ⊢
      split at h0
      · rename_i hc
        have := common_ext w (c :: t) z hc
        rw [List.cons_append] at this
        rw [if_pos this, if_pos hc]
      · simp [wrongT] at h0
    | none =>
      rw [hs] at h0
      dsimp only at h0 ⊢
      by_cases h34 : c = 34
      · rw [if_pos h34] at h0
        rw [if_pos h34, if_pos h34]
        unfold litM at h0 ⊢
        by_cases hu : (unqM (c :: t)).2.2.2 ≠ 0
        · rw [if_pos hu] at h0
          exact absurd h0 hu
        · have he : unqM (c :: (t ++ z)) = unqM (c :: t) := uq_ext z (c :: t) uq0 0 (Classical.not_not.1 hu)
          rw [he]
      · rw [if_neg h34] at h0
        rw [if_neg h34, if_neg h34]
        by_cases hn : c = 45 ∨ digB c = true
        · rw [if_pos hn] at h0
          rw [if_pos hn, if_pos hn]
          exact num_ext (l := c :: t) h0 hz
        · rw [if_neg hn] at h0
          simp [wrongT] at h0
/-- A token further on. -/
def shT (d : Int) (t : Tok) : Tok := { t with from_ := t.from_ + d, to_ := t.to_ + d }
theorem int_move {neg : Bool} {u : Nat} {a z : Int} (h : (intT neg u a (a + z)).2 = 0) (a' : Int) : intT neg u a' (a' + z) = (shT (a' - a) (intT neg u a (a + z)).1, 0) := by
  have e1 : a + (a' - a) = a' := by omega
  have e2 : a + z + (a' - a) = a' + z := by omega
  unfold intT at h ⊢
  split at h
  · simp [wrongT] at h
  rename_i hc
  rw [if_neg hc, if_neg hc]
  split
  · simp only [shT, e1, e2]
  split
  · simp only [shT, e1, e2]
  · simp only [shT, e1, e2]
theorem num_move {l : List UInt8} {a : Int} (h : (numM l a).2 = 0) (a' : Int) : numM l a' = (shT (a' - a) (numM l a).1, 0) := by
  have hF : ∀ neg u y k, (numF neg u y k a).2 = 0 → numF neg u y k a' = (shT (a' - a) (numF neg u y k a).1, 0) := by
    intro neg u y k h
    unfold numF at h ⊢
    split at h
    · exfalso
      split at h
      · simp [wrongT] at h
      · unfold numE at h
        split at h
        · split at h <;> simp [wrongT] at h
        · rw [if_pos rfl] at h
          simp [wrongT] at h
    · rename_i h46
      rw [if_neg h46, if_neg h46]
      unfold numE at h ⊢
      split at h
      · exfalso
        split at h <;> simp [wrongT] at h
      · rename_i he
        rw [if_neg he, if_neg he]
        rw [if_neg (by decide)] at h
        rw [if_neg (by decide), if_neg (by decide)]
        exact int_move h a'
  unfold numM at h ⊢
  split at h
  · simp [wrongT] at h
  · rename_i hw
    rw [if_neg hw, if_neg hw]
    exact hF _ _ _ _ h
/-- A token does not depend on where it stands. -/
theorem tok_move {l : List UInt8} {a : Int} (h0 : (tokM l a).2 = 0) (a' : Int) : tokM l a' = (shT (a' - a) (tokM l a).1, 0) := by
  have e1 : a + (a' - a) = a' := by omega
  cases l with
  | nil => simp only [tokM, shT, e1]
  | cons c t =>
    simp only [tokM] at h0 ⊢
    cases hs : spellW c with
    | some wk =>
      obtain ⟨w, k⟩ := wk
      rw [hs] at h0
      dsimp only at h0 ⊢
      unfold wordM at h0 ⊢
      split at h0
      · rename_i hc
        have e2 : a + (w.length : Int) + (a' - a) = a' + w.length := by omega
        rw [if_pos hc, if_pos hc]
        simp only [shT, e1, e2]
      · simp [wrongT] at h0
    | none =>
      rw [hs] at h0
      dsimp only at h0 ⊢
      by_cases h34 : c = 34
      · rw [if_pos h34] at h0
        rw [if_pos h34, if_pos h34]
        unfold litM at h0 ⊢
        by_cases hu : (unqM (c :: t)).2.2.2 ≠ 0
        · rw [if_pos hu] at h0
          exact absurd h0 hu
        · have e2 : a + (unqM (c :: t)).2.1 + (a' - a) = a' + (unqM (c :: t)).2.1 := by omega
          rw [if_neg hu, if_neg hu]
          simp only [shT, e1, e2]
      · rw [if_neg h34] at h0
        rw [if_neg h34, if_neg h34]
        by_cases hn : c = 45 ∨ digB c = true
        · rw [if_pos hn] at h0
          rw [if_pos hn, if_pos hn]
          exact num_move h0 a'
        · rw [if_neg hn] at h0
          simp [wrongT] at h0
theorem drop_mid (pre s post : List UInt8) (e : Nat) (he : e ≤ s.length) : (pre ++ (s ++ post)).drop (pre.length + e) = s.drop e ++ post := by
  rw [← List.drop_drop, List.drop_left, List.drop_append_of_le_length he]
/-- A text's token, read in a longer text. -/
theorem next_shift {pre s post : List UInt8} {e : Nat} (he : e ≤ s.length) (h0 : (nextM s e).2 = 0) (hk : (nextM s e).1.kind ≠ 0) (hz : stopZ post) :
    nextM (pre ++ (s ++ post)) ((pre.length + e : Nat) : Int) = (shT pre.length (nextM s e).1, 0) := by
  have hn := next_at he
  have hN := next_at (s := pre ++ (s ++ post)) (e := pre.length + e) (by simp only [List.length_append]; omega)
  rw [drop_mid pre s post e he] at hN
  obtain ⟨ba, bh⟩ := blanks_all (s.drop e)
  have hbl := blanks_le (s.drop e)
  rw [hn] at h0 hk
  have hne : (s.drop e).drop (blanksN (s.drop e)) ≠ [] := by
    intro hnil
    rw [hnil] at hk
    exact hk rfl
  have hb : blanksN (s.drop e ++ post) = blanksN (s.drop e) := by
    have := blanks_app ((s.drop e).take (blanksN (s.drop e))) ((s.drop e).drop (blanksN (s.drop e)) ++ post) ba (by rw [head_app hne]; exact bh)
    rw [← List.append_assoc, List.take_append_drop, List.length_take, Nat.min_eq_left hbl] at this
    exact this
  rw [hb, List.drop_append_of_le_length hbl] at hN
  have hx := tok_ext (z := post) (a := ((pre.length + e : Nat) : Int) + blanksN (s.drop e)) (l := (s.drop e).drop (blanksN (s.drop e))) (by rw [tok_move h0]) (by rw [tok_move h0]; exact hk) hz
  rw [hN, hx, tok_move h0, hn]
  congr 2
  push_cast
  omega
/-- Behind a text's last token the longer text goes on. -/
theorem next_end {pre s post : List UInt8} {e : Nat} (he : e ≤ s.length) (h0 : (nextM s e).2 = 0) (hk : (nextM s e).1.kind = 0) :
    nextM (pre ++ (s ++ post)) ((pre.length + e : Nat) : Int) = nextM (pre ++ (s ++ post)) ((pre.length + s.length : Nat) : Int) := by
  have hn := next_at he
  have hN := next_at (s := pre ++ (s ++ post)) (e := pre.length + e) (by simp only [List.length_append]; omega)
  have hM := next_at (s := pre ++ (s ++ post)) (e := pre.length + s.length) (by simp only [List.length_append]; omega)
  rw [drop_mid pre s post e he] at hN
  rw [drop_mid pre s post s.length (Nat.le_refl _), List.drop_length, List.nil_append] at hM
  obtain ⟨ba, bh⟩ := blanks_all (s.drop e)
  have hbl := blanks_le (s.drop e)
  rw [hn] at h0 hk
  have hnil : (s.drop e).drop (blanksN (s.drop e)) = [] := by
    cases hd : (s.drop e).drop (blanksN (s.drop e)) with
    | nil => rfl
    | cons c l =>
      rw [hd] at h0 hk
      exact absurd (tok_kind h0 hk) id
  have hfull : blanksN (s.drop e) = (s.drop e).length := by
    have := List.drop_eq_nil_iff.1 hnil
    omega
  obtain ⟨pa, ph⟩ := blanks_all post
  have hpl := blanks_le post
  have hb : blanksN (s.drop e ++ post) = (s.drop e).length + blanksN post := by
    have hall : ∀ c ∈ s.drop e ++ post.take (blanksN post), blankB c = true := by
      intro c hc
      rcases List.mem_append.1 hc with hc | hc
      · exact ba c (by rw [hfull, List.take_length]; exact hc)
      · exact pa c hc
    have := blanks_app (s.drop e ++ post.take (blanksN post)) (post.drop (blanksN post)) hall ph
    rw [List.append_assoc, List.take_append_drop, List.length_append, List.length_take, Nat.min_eq_left hpl] at this
    exact this
  have hd : (s.drop e ++ post).drop ((s.drop e).length + blanksN post) = post.drop (blanksN post) := by rw [← List.drop_drop, List.drop_left]
  rw [hN, hM, hb, hd]
  congr 1
  rw [List.length_drop]
  push_cast
  omega
end
section
/-- What a token becomes in the longer text; tz: the token behind the shorter. -/
def imgT (d : Int) (tz t : Tok) : Tok := if t.kind = 0 then tz else shT d t
theorem imgT_pos {d : Int} {tz t : Tok} (h : t.kind ≠ 0) : imgT d tz t = shT d t := if_neg h
theorem nextP_img {pre s post : List UInt8} {tz : Tok} (hz : stopZ post) (hend : nextM (pre ++ (s ++ post)) ((pre.length + s.length : Nat) : Int) = (tz, 0)) {t t1 : Tok} (hp : PosT s t) (h : nextP s t = .ok t1) :
    nextP (pre ++ (s ++ post)) (shT pre.length t) = .ok (imgT pre.length tz t1) := by
  obtain ⟨-, -, m, hm, hml⟩ := hp
  unfold nextP at h ⊢
  rw [hm] at h
  have e : (shT pre.length t).to_ = ((pre.length + m : Nat) : Int) := by simp only [shT, hm]; push_cast; omega
  rw [e]
  split at h
  · cases h
  rename_i h0
  cases h
  have h0' : (nextM s m).2 = 0 := Classical.not_not.1 h0
  by_cases hk : (nextM s m).1.kind = 0
  · rw [next_end hml h0' hk, hend, if_neg (by simp)]
    simp only [imgT, if_pos hk]
  · rw [next_shift hml h0' hk hz, if_neg (by simp)]
    simp only [imgT, if_neg hk]
theorem val_kind {s : List UInt8} {g : Nat} {deep many : Int} {t : Tok} {p : DT × Tok × Int} (h : valP s g deep t many = .ok p) : t.kind ≠ 0 := by
  cases g with
  | zero => simp [valP] at h
  | succ g =>
    rw [valP] at h
    intro h0
    rw [if_pos (by rw [h0]; rfl)] at h
    cases h
theorem each_kind {s : List UInt8} {g : Nat} {mp : Bool} {deep many : Int} {t : Tok} {ks : List (List UInt8)} {acc : List DT} {p : List (List UInt8) × List DT × Tok × Int} (h : eachP s g mp deep t many ks acc = .ok p) : t.kind ≠ 0 := by
  cases g with
  | zero => simp [eachP] at h
  | succ g =>
    rw [eachP] at h
    split at h
    · rename_i hk; rw [hk]; exact (lastP_low mp).2.1
    split at h
    · cases h
    rename_i ks1 t1 hh
    intro h0
    unfold headP at hh
    split at hh
    · cases hh
      split at h
      · cases h
      · rename_i hv; exact val_kind hv h0
    · rw [if_pos (by rw [h0]; decide)] at hh
      cases hh
theorem head_img {pre s post : List UInt8} {tz : Tok} (hz : stopZ post) (hend : nextM (pre ++ (s ++ post)) ((pre.length + s.length : Nat) : Int) = (tz, 0)) {mp : Bool} {ks ks1 : List (List UInt8)} {t t1 : Tok} (hp : PosT s t) (hk1 : t1.kind ≠ 0)
    (h : headP s mp ks t = .ok (ks1, t1)) : headP (pre ++ (s ++ post)) mp ks (shT pre.length t) = .ok (ks1, shT pre.length t1) := by
  unfold headP at h ⊢
  by_cases h1 : mp = false
  · rw [if_pos h1] at h
    cases h
    rw [if_pos h1]
  rw [if_neg h1] at h
  rw [if_neg h1]
  split at h
  · cases h
  rename_i h2
  split at h
  · cases h
  rename_i h3
  split at h
  · cases h
  rename_i h4
  rw [if_neg (show ¬ (shT pre.length t).kind ≠ 12 from h2), if_neg (show ¬ (0 : UInt8) ∈ (shT pre.length t).text from h3), if_neg (show ¬ (shT pre.length t).text ∈ ks from h4)]
  split at h
  · cases h
  rename_i c hc
  have hpc := nextP_pos hp
  rw [hc] at hpc
  split at h
  · cases h
  rename_i h6
  split at h
  · cases h
  rename_i t2 ht2
  cases h
  have h6' : c.kind = 6 := Classical.not_not.1 h6
  rw [nextP_img hz hend hp hc, imgT_pos (by omega)]
  dsimp only
  rw [if_neg (show ¬ (shT pre.length c).kind ≠ 6 from h6), nextP_img hz hend hpc ht2, imgT_pos hk1]
  rfl
set_option maxHeartbeats 1000000 in
/-- A value is read alike within a longer text, at any depth and count that leave it room. -/
theorem val_shift {pre s post : List UInt8} {tz : Tok} (hz : stopZ post) (hend : nextM (pre ++ (s ++ post)) ((pre.length + s.length : Nat) : Int) = (tz, 0)) (hl : s.length ≤ 1073741824) : ∀ (g : Nat),
    (∀ deep t many T t1 m, PosT s t → valP s g deep t many = .ok (T, t1, m) → 2 * (4096 - many) + 1 ≤ (g : Int) → many ≤ 4096 → ∀ (g' : Nat) (deep' many' : Int), 2 * sizeD T ≤ g' → deep' + depthD T ≤ 64 → many' + sizeD T ≤ 4096 →
      valP (pre ++ (s ++ post)) g' deep' (shT pre.length t) many' = .ok (T, imgT pre.length tz t1, many' + sizeD T)) ∧
    (∀ mp deep t many ks acc ks1 l1 t1 m, PosT s t → eachP s g mp deep t many ks acc = .ok (ks1, l1, t1, m) → 2 * (4096 - many) + 2 ≤ (g : Int) → many ≤ 4096 → ∃ L, l1 = acc ++ L ∧
      ∀ (g' : Nat) (deep' many' : Int) (acc' : List DT), 2 * sizesD L + 1 ≤ g' → deep' + depthsD L ≤ 64 → many' + sizesD L ≤ 4096 →
        eachP (pre ++ (s ++ post)) g' mp deep' (shT pre.length t) many' ks acc' = .ok (ks1, acc' ++ L, imgT pre.length tz t1, many' + sizesD L)) := by
  have hz0 : sizesD [] = 0 := by rw [sizesD]
  have hd0 : depthsD [] = 0 := by rw [depthsD]
  have hshut : ∀ (ks ks1 : List (List UInt8)) (acc l1 : List DT) (t t1 : Tok) (many m : Int), PosT s t → shutP s ks acc t many = .ok (ks1, l1, t1, m) → ks1 = ks ∧ l1 = acc ∧ m = many ∧ ∀ (ks' : List (List UInt8)) (acc' : List DT) (many' : Int), shutP (pre ++ (s ++ post)) ks' acc' (shT pre.length t) many' = .ok (ks', acc', imgT pre.length tz t1, many') := by
    intro ks ks1 acc l1 t t1 many m hp h
    unfold shutP at h
    split at h
    · cases h
    rename_i hn
    cases h
    refine ⟨rfl, rfl, rfl, fun ks' acc' many' => ?_⟩
    unfold shutP
    rw [nextP_img hz hend hp hn]
  intro g
  induction g with
  | zero => exact ⟨fun deep t many T t1 m _ h => by simp [valP] at h, fun mp deep t many ks acc ks1 l1 t1 m _ h => by simp [eachP] at h⟩
  | succ g ih =>
    refine ⟨fun deep t many T t1 m hp h hg hm g' deep' many' hg' hdp' hm' => ?_, fun mp deep t many ks acc ks1 l1 t1 m hp h hg hm => ?_⟩
    · have hpos := nextP_pos hp
      rw [valP] at h
      split at h
      · cases h
      rename_i hb
      split at h
      · cases h
      split at h
      · cases h
      rename_i h5 h64
      split at h
      · cases h
      rename_i t2 hn
      rw [hn] at hpos
      have hT1 : 1 ≤ sizeD T ∧ 1 ≤ depthD T := by
        obtain ⟨kd, n, u, x, ks, l⟩ := T
        have h1 := sizesD_nonneg l
        have h2 := depthsD_nonneg l
        rw [sizeD, depthD]
        omega
      obtain ⟨g1, rfl⟩ : ∃ g1, g' = g1 + 1 := ⟨g' - 1, by omega⟩
      rw [valP, if_neg (show ¬ bgB (shT pre.length t).kind = false from hb), if_neg (by omega), if_neg (by omega), nextP_img hz hend hp hn]
      dsimp only
      split at h
      · rename_i h31
        split at h
        · cases h
        rename_i ks l t3 m' he
        cases h
        have hk2 : t2.kind ≠ 0 := each_kind he
        obtain ⟨L, e1, e2⟩ := ih.2 _ _ _ _ _ _ _ _ _ _ hpos he (by push_cast at hg; omega) (by omega)
        rw [List.nil_append] at e1
        subst e1
        rw [sizeD] at hg' hm' ⊢
        rw [depthD] at hdp'
        have := e2 g1 (deep' + 1) (many' + 1) [] (by push_cast at hg'; omega) (by omega) (by omega)
        rw [if_pos (show (shT pre.length t).kind = 3 ∨ (shT pre.length t).kind = 1 from h31), imgT_pos hk2]
        show (match eachP (pre ++ (s ++ post)) g1 (decide (t.kind = 1)) (deep' + 1) (shT pre.length t2) (many' + 1) [] [] with
          | .error x => .error x
          | .ok (ks, l, t2, m) => .ok (.mk (if t.kind = 1 then 17 else 10) 0 0 [] ks l, t2, m) : VR) = _
        rw [this]
        dsimp only
        rw [List.nil_append, Int.add_assoc]
      · rename_i h31
        cases h
        rw [if_neg (show ¬ ((shT pre.length t).kind = 3 ∨ (shT pre.length t).kind = 1) from h31)]
        have hs1 : sizeD (leafP t) = 1 := by
          unfold leafP
          repeat' split
          all_goals (rw [sizeD, hz0]; rfl)
        rw [hs1]
        rfl
    · have hpos := hp
      have hk := each_kind h
      rw [eachP] at h
      split at h
      · rename_i hkl
        obtain ⟨rfl, rfl, rfl, e⟩ := hshut _ _ _ _ _ _ _ _ hp h
        refine ⟨[], by simp, fun g' deep' many' acc' hg' _ _ => ?_⟩
        rw [hz0] at hg' ⊢
        obtain ⟨g1, rfl⟩ : ∃ g1, g' = g1 + 1 := ⟨g' - 1, by omega⟩
        rw [eachP, if_pos (show (shT pre.length t).kind = lastP mp from hkl), e, List.append_nil, Int.add_zero]
      rename_i hkl
      split at h
      · cases h
      rename_i ks' t1' hh
      have hp1 := head_pos (mp := mp) (ks := ks) hp
      rw [hh] at hp1
      dsimp only at hp1
      split at h
      · cases h
      rename_i T t2 m' hv
      have hk1 := val_kind hv
      have hp2 := (val_pos s g).1 deep t1' many hp1 (by push_cast at hg; omega) hm
      rw [hv] at hp2
      dsimp only at hp2
      have hmm := (val_more s g).1 _ _ _ _ _ _ hv
      have hvs := ih.1 _ _ _ _ _ _ hp1 hv (by push_cast at hg; omega) hm
      have hhi := head_img hz hend hp hk1 hh
      have hT1 : 1 ≤ sizeD T ∧ 1 ≤ depthD T := by
        obtain ⟨kd, n, u, x, ks, l⟩ := T
        have h1 := sizesD_nonneg l
        have h2 := depthsD_nonneg l
        rw [sizeD, depthD]
        omega
      split at h
      · rename_i hk2
        obtain ⟨rfl, rfl, rfl, e⟩ := hshut _ _ _ _ _ _ _ _ hp2 h
        refine ⟨[T], rfl, fun g' deep' many' acc' hg' hdp' hm' => ?_⟩
        rw [sizesD, hz0] at hg' hm' ⊢
        rw [depthsD, hd0] at hdp'
        obtain ⟨g1, rfl⟩ : ∃ g1, g' = g1 + 1 := ⟨g' - 1, by omega⟩
        rw [eachP, if_neg (show ¬ (shT pre.length t).kind = lastP mp from hkl), hhi]
        dsimp only
        rw [hvs g1 deep' many' (by push_cast at hg'; omega) (by omega) (by omega), imgT_pos (by rw [hk2]; exact (lastP_low mp).2.1)]
        dsimp only
        rw [if_pos (show (shT pre.length t2).kind = lastP mp from hk2), e, Int.add_zero]
      rename_i hk2
      split at h
      · cases h
      rename_i h5
      split at h
      · cases h
      rename_i h7
      split at h
      · cases h
      rename_i t3 hn
      have hk3 := each_kind h
      have h5' : t2.kind = 5 := Classical.not_not.1 h5
      have hp3 := nextP_pos hp2
      rw [hn] at hp3
      obtain ⟨L, rfl, e2⟩ := ih.2 _ _ _ _ _ _ _ _ _ _ hp3 h (by push_cast at hg; omega) (by omega)
      refine ⟨T :: L, by simp, fun g' deep' many' acc' hg' hdp' hm' => ?_⟩
      have hL0 := sizesD_nonneg L
      have hLd := depthsD_nonneg L
      rw [sizesD] at hg' hm' ⊢
      rw [depthsD] at hdp'
      obtain ⟨g1, rfl⟩ : ∃ g1, g' = g1 + 1 := ⟨g' - 1, by omega⟩
      rw [eachP, if_neg (show ¬ (shT pre.length t).kind = lastP mp from hkl), hhi]
      dsimp only
      rw [hvs g1 deep' many' (by push_cast at hg'; omega) (by omega) (by omega), imgT_pos (by omega)]
      dsimp only
      have hni := nextP_img hz hend hp2 hn
      rw [imgT_pos hk3] at hni
      have h7' : ¬ ((nextM (pre ++ (s ++ post)) (shT pre.length t2).to_).2 = 0 ∧ (nextM (pre ++ (s ++ post)) (shT pre.length t2).to_).1.kind = lastP mp) := by
        rintro ⟨a1, a2⟩
        have b1 := hni
        unfold nextP at b1
        rw [if_neg (by simpa using a1)] at b1
        injection b1 with b1
        have c1 := hn
        unfold nextP at c1
        split at c1
        · cases c1
        rename_i c0
        injection c1 with c1
        refine h7 ⟨Classical.not_not.1 c0, ?_⟩
        rw [c1]
        rw [b1] at a2
        exact a2
      rw [if_neg (show ¬ (shT pre.length t2).kind = lastP mp from hk2), if_neg (show ¬ (shT pre.length t2).kind ≠ 5 from h5), if_neg h7', hni]
      dsimp only
      rw [e2 g1 deep' (many' + sizeD T) (acc' ++ [T]) (by push_cast at hg'; omega) (by omega) (by omega), List.append_assoc, Int.add_assoc]
      rfl
end
section
/-- A text that parses, and its tree. -/
def OkP (y : List UInt8 × DT) : Prop := y.1.length ≤ 1048576 ∧ ∃ t t1 m, nextP y.1 tok0 = .ok t ∧ PosT y.1 t ∧ valP y.1 8200 0 t 0 = .ok (y.2, t1, m) ∧ t1.kind = 0 ∧ PosT y.1 t1
theorem okP_of {s : List UInt8} {T : DT} (hl : s.length ≤ 1048576) (h : parM s = (T, 0, 0)) : OkP (s, T) := by
  have h0 : PosT s tok0 := ⟨by decide, by show (0 : Int) ≤ s.length; omega, 0, rfl, by omega⟩
  unfold parM at h
  rw [if_neg (by omega)] at h
  have hn := nextP_pos h0
  cases hq : nextP s tok0 with
  | error x => rw [hq] at hn h; simp only [Prod.mk.injEq] at h; exact absurd h.2.2 hn.2.2
  | ok t =>
    rw [hq] at hn h
    dsimp only at hn h
    have hv := (val_pos s 8200).1 0 t 0 hn (by decide) (by decide)
    cases hq2 : valP s 8200 0 t 0 with
    | error x => rw [hq2] at hv h; simp only [Prod.mk.injEq] at h; exact absurd h.2.2 hv.2.2
    | ok p =>
      obtain ⟨T', t1, m⟩ := p
      rw [hq2] at hv h
      dsimp only at hv h
      by_cases hk : t1.kind ≠ 0
      · rw [if_pos hk] at h; simp only [Prod.mk.injEq] at h; exact absurd h.2.2 (by decide)
      · rw [if_neg hk] at h
        simp only [Prod.mk.injEq] at h
        obtain ⟨rfl, -⟩ := h
        exact ⟨hl, t, t1, m, hq, hn, hq2, Classical.not_not.1 hk, hv⟩
/-- What stands behind an element: a comma and the next, or the closing byte. -/
def joinL (c : UInt8) : List (List UInt8) → List UInt8
  | [] => [c]
  | s :: r => 44 :: (s ++ joinL c r)
theorem byte_tok {b : UInt8} {k : Int} (hs : spellW b = some ([b], k)) (hb : blankB b = false) (pre z : List UInt8) : nextM (pre ++ (b :: z)) (pre.length : Nat) = (⟨k, pre.length, pre.length + 1, 0, 0, []⟩, 0) := by
  have hn := next_at (s := pre ++ (b :: z)) (e := pre.length) (by simp only [List.length_append]; omega)
  rw [List.drop_left] at hn
  have hbl : blanksN (b :: z) = 0 := by simp [blanksN, List.takeWhile_cons, hb]
  rw [hbl, List.drop_zero] at hn
  rw [hn]
  simp only [tokM, hs, wordM]
  have hc : commonN [b] (b :: z) = [b].length := by simp [commonN]
  rw [if_pos hc]
  simp
theorem end_tok (pre : List UInt8) : nextM pre (pre.length : Nat) = (⟨0, pre.length, pre.length, 0, 0, []⟩, 0) := by
  have hn := next_at (s := pre) (e := pre.length) (Nat.le_refl _)
  rw [List.drop_length] at hn
  rw [hn]
  simp [tokM, blanksN]
theorem join_stop (c : UInt8) (hc : digB c = false ∧ (c == 46) = false ∧ expB c = false) (r : List (List UInt8)) : stopZ (joinL c r) := by
  cases r with
  | nil => exact ⟨by simp [joinL, headB, hc.1], by simp [joinL, headB]; simpa using hc.2.1, by simp [joinL, headB, hc.2.2]⟩
  | cons s r => exact ⟨by simp [joinL, headB, digB], by simp [joinL, headB], by simp [joinL, headB, expB]⟩
/-- The first token of a text that parses, read in a longer text. -/
theorem okP_first {y : List UInt8 × DT} {pre post : List UInt8} {t t1 : Tok} {m : Int} (hz : stopZ post) (h : nextP y.1 tok0 = .ok t) (hv : valP y.1 8200 0 t 0 = .ok (y.2, t1, m)) :
    nextM (pre ++ (y.1 ++ post)) (pre.length : Nat) = (shT pre.length t, 0) := by
  have hk := val_kind hv
  unfold nextP at h
  split at h
  · cases h
  rename_i h0
  cases h
  have h0' : (nextM y.1 (0 : Nat)).2 = 0 := Classical.not_not.1 h0
  exact next_shift (e := 0) (Nat.zero_le _) h0' hk hz
theorem val_bg {s : List UInt8} {g : Nat} {deep many : Int} {t : Tok} {p : DT × Tok × Int} (h : valP s g deep t many = .ok p) : bgB t.kind = true := by
  cases g with
  | zero => simp [valP] at h
  | succ g =>
    rw [valP] at h
    split at h
    · cases h
    rename_i hb
    simpa using hb
theorem size_pos (T : DT) : 1 ≤ sizeD T := by
  obtain ⟨kd, n, u, x, ks, l⟩ := T
  have h1 := sizesD_nonneg l
  rw [sizeD]
  omega
theorem each_list : ∀ (r : List (List UInt8 × DT)) (x : List UInt8 × DT) (pre : List UInt8) (g : Nat) (many : Int) (acc : List DT), (∀ y ∈ x :: r, OkP y ∧ 1 + depthD y.2 ≤ 64) →
    2 * sizesD ((x :: r).map (·.2)) + 1 ≤ (g : Int) → many + sizesD ((x :: r).map (·.2)) ≤ 4096 →
    ∃ t' te, nextM (pre ++ (x.1 ++ joinL 93 (r.map (·.1)))) (pre.length : Nat) = (t', 0) ∧ t'.kind ≠ 4 ∧ te.kind = 0 ∧
      eachP (pre ++ (x.1 ++ joinL 93 (r.map (·.1)))) g false 1 t' many [] acc = .ok ([], acc ++ (x :: r).map (·.2), te, many + sizesD ((x :: r).map (·.2)))
  | r, x, pre, 0, many, acc, hok, hg, hm => by
    have := sizesD_nonneg ((x :: r).map (·.2))
    push_cast at hg
    omega
  | r, x, pre, g + 1, many, acc, hok, hg, hm => by
    obtain ⟨⟨hl, t, t1, m, h1, h2, h3, h4, h5⟩, hdp⟩ := hok x (by simp)
    have hz := join_stop 93 (by decide) (r.map (·.1))
    have hf := okP_first (pre := pre) hz h1 h3
    have hbg := val_bg h3
    have hk4 : (shT pre.length t).kind ≠ 4 := by
      show t.kind ≠ 4
      intro e
      rw [e] at hbg
      cases hbg
    have hcons : sizesD ((x :: r).map (·.2)) = sizeD x.2 + sizesD (r.map (·.2)) := by rw [List.map_cons, sizesD]
    have hr0 := sizesD_nonneg (r.map (·.2))
    have hT1 := size_pos x.2
    rw [hcons] at hg hm ⊢
    push_cast at hg
    cases r with
    | nil =>
      have he0 := byte_tok (b := 93) (k := 4) rfl rfl (pre ++ x.1) []
      rw [List.append_assoc, List.length_append] at he0
      have hvs := (val_shift (pre := pre) (tz := ⟨4, ((pre.length + x.1.length : Nat) : Int), ((pre.length + x.1.length : Nat) : Int) + 1, 0, 0, []⟩) hz he0 (by omega) 8200).1 _ _ _ _ _ _ h2 h3 (by decide) (by decide) g 1 many (by omega) hdp (by omega)
      have hend := end_tok (pre ++ (x.1 ++ [93]))
      refine ⟨_, (⟨0, ((pre ++ (x.1 ++ [93])).length : Nat), ((pre ++ (x.1 ++ [93])).length : Nat), 0, 0, []⟩ : Tok), hf, hk4, ?_, ?_⟩
      rotate_left
      · rw [eachP, if_neg (show ¬ (shT pre.length t).kind = lastP false from hk4)]
        simp only [headP, if_pos]
        rw [show ([] : List (List UInt8 × DT)).map (·.1) = [] from rfl] at hvs ⊢
        rw [hvs]
        dsimp only
        rw [imgT, if_pos h4, if_pos (show (4 : Int) = lastP false from rfl)]
        unfold shutP nextP
        have e : (((pre.length + x.1.length : Nat) : Int) + 1) = ((pre ++ (x.1 ++ [93])).length : Nat) := by simp only [List.length_append, List.length_singleton]; push_cast; omega
        dsimp only
        rw [e]
        rw [show joinL 93 [] = [93] from rfl, hend, if_neg (fun h => h rfl)]
        simp [sizesD]
      · rfl
    | cons z r =>
      have he0 := byte_tok (b := 44) (k := 5) rfl rfl (pre ++ x.1) (z.1 ++ joinL 93 (r.map (·.1)))
      rw [List.append_assoc, List.length_append] at he0
      have hvs := (val_shift (pre := pre) (tz := ⟨5, ((pre.length + x.1.length : Nat) : Int), ((pre.length + x.1.length : Nat) : Int) + 1, 0, 0, []⟩) hz he0 (by omega) 8200).1 _ _ _ _ _ _ h2 h3 (by decide) (by decide) g 1 many (by omega) hdp (by omega)
      obtain ⟨t', te, i1, i2, i3, i4⟩ := each_list r z (pre ++ (x.1 ++ [44])) g (many + sizeD x.2) (acc ++ [x.2]) (fun y hy => hok y (List.mem_cons_of_mem _ hy)) (by omega) (by omega)
      have eS : pre ++ (x.1 ++ [44]) ++ (z.1 ++ joinL 93 (r.map (·.1))) = pre ++ (x.1 ++ joinL 93 ((z :: r).map (·.1))) := by simp [joinL]
      have eL : ((pre ++ (x.1 ++ [44])).length : Nat) = pre.length + x.1.length + 1 := by simp; omega
      rw [eS] at i1 i4
      rw [eL] at i1
      refine ⟨_, te, hf, hk4, i3, ?_⟩
      rw [eachP, if_neg (show ¬ (shT pre.length t).kind = lastP false from hk4)]
      simp only [headP, if_pos]
      rw [hvs]
      dsimp only
      rw [imgT, if_pos h4]
      dsimp only
      have hni : nextM (pre ++ (x.1 ++ joinL 93 ((z :: r).map (·.1)))) (((pre.length + x.1.length : Nat) : Int) + 1) = (t', 0) := by
        have e : (((pre.length + x.1.length : Nat) : Int) + 1) = ((pre.length + x.1.length + 1 : Nat) : Int) := by push_cast; rfl
        rw [e]; exact i1
      rw [if_neg (show ¬ (5 : Int) = lastP false by decide), if_neg (by decide), hni, if_neg (by rintro ⟨-, h⟩; exact i2 h)]
      unfold nextP
      dsimp only
      rw [hni, if_neg (fun h => h rfl)]
      dsimp only
      rw [i4, List.append_assoc, Int.add_assoc]
      rfl
def bodyL (c : UInt8) : List (List UInt8) → List UInt8
  | [] => [c]
  | s :: r => s ++ joinL c r
set_option maxRecDepth 100000 in
/-- A joined list is read as the list of the trees. -/
theorem par_list (r : List (List UInt8 × DT)) (hok : ∀ y ∈ r, OkP y ∧ 1 + depthD y.2 ≤ 64) (hs : 1 + sizesD (r.map (·.2)) ≤ 4096) (hl : (91 :: bodyL 93 (r.map (·.1))).length ≤ 1048576) :
    parM (91 :: bodyL 93 (r.map (·.1))) = (.mk 10 0 0 [] [] (r.map (·.2)), 0, 0) := by
  have h0 := byte_tok (b := 91) (k := 3) rfl rfl [] (bodyL 93 (r.map (·.1)))
  rw [List.nil_append] at h0
  have hn0 : nextP (91 :: bodyL 93 (r.map (·.1))) tok0 = .ok ⟨3, 0, 1, 0, 0, []⟩ := by
    unfold nextP
    rw [show tok0.to_ = (([] : List UInt8).length : Nat) from rfl, h0, if_neg (fun h => h rfl)]
    rfl
  have hr0 := sizesD_nonneg (r.map (·.2))
  have hval : ∃ te m, te.kind = 0 ∧ valP (91 :: bodyL 93 (r.map (·.1))) 8200 0 ⟨3, 0, 1, 0, 0, []⟩ 0 = .ok (.mk 10 0 0 [] [] (r.map (·.2)), te, m) := by
    rw [valP, if_neg (by decide), if_neg (by decide), if_neg (by decide)]
    cases r with
    | nil =>
      have h1 := byte_tok (b := 93) (k := 4) rfl rfl [91] []
      have h2 := end_tok [91, 93]
      refine ⟨⟨0, 2, 2, 0, 0, []⟩, 1, rfl, ?_⟩
      kernel_rfl
    | cons x r =>
      obtain ⟨t', te, i1, i2, i3, i4⟩ := each_list r x [91] 8199 1 [] hok (by push_cast; omega) (by omega)
      refine ⟨te, 1 + sizesD ((x :: r).map (·.2)), i3, ?_⟩
      have hn1 : nextP (91 :: bodyL 93 ((x :: r).map (·.1))) ⟨3, 0, 1, 0, 0, []⟩ = .ok t' := by
        unfold nextP
        rw [show (91 :: bodyL 93 ((x :: r).map (·.1))) = [91] ++ (x.1 ++ joinL 93 (r.map (·.1))) from rfl]
        rw [show (⟨3, 0, 1, 0, 0, []⟩ : Tok).to_ = (([91] : List UInt8).length : Nat) from rfl, i1, if_neg (fun h => h rfl)]
      rw [hn1]
      dsimp only
      rw [if_pos (.inl rfl)]
      have i4' : eachP (91 :: bodyL 93 ((x :: r).map (·.1))) 8199 (decide ((3 : Int) = 1)) (0 + 1) t' (0 + 1) [] [] = _ := i4
      rw [i4']
      rfl
  obtain ⟨te, m, hk, hv⟩ := hval
  unfold parM
  rw [if_neg (by omega), hn0]
  dsimp only
  rw [hv]
  dsimp only
  rw [if_neg (by rw [hk]; exact fun h => h rfl)]
end
end Go.Proofs.YtccmhhmdenfecaaGreatDoor
