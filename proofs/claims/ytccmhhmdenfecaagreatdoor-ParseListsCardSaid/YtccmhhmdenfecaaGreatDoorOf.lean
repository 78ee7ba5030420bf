/- Plain: parsed texts, joined as members, are a text of the map of their trees. Plain: parsed texts, joined as members, are a text of the map of their trees. Plain: a parsed text with white space around it. Plain: a value's text is at least as long as its tree is large and deep; joined texts, from the left. -/
import Derived.Test.YtccmhhmdenfecaaGreatDoorOe
namespace Go.Proofs.YtccmhhmdenfecaaGreatDoor
set_option linter.unusedVariables false
set_option linter.unusedSimpArgs false
section
/-- A member's key literal and colon. -/
def keyH (c : UInt8) : List UInt8 := [34, c, 34, 58]
theorem key_unq {c : UInt8} (h : c = 97 ∨ c = 98 ∨ c = 99 ∨ c = 100 ∨ c = 101 ∨ c = 102) : unqM [34, c, 34] = ([c], 3, 0, 0) := by
  rcases h with rfl | rfl | rfl | rfl | rfl | rfl <;> kernel_rfl
theorem key_tok {c : UInt8} (h : c = 97 ∨ c = 98 ∨ c = 99 ∨ c = 100 ∨ c = 101 ∨ c = 102) (pre z : List UInt8) : nextM (pre ++ (keyH c ++ z)) (pre.length : Nat) = (⟨12, pre.length, pre.length + 3, 0, 0, [c]⟩, 0) := by
  have hn := next_at (s := pre ++ (keyH c ++ z)) (e := pre.length) (by simp only [List.length_append]; omega)
  rw [List.drop_left] at hn
  have hbl : blanksN (keyH c ++ z) = 0 := by simp [blanksN, keyH, List.takeWhile_cons, blankB]
  rw [hbl, List.drop_zero] at hn
  rw [hn]
  have hu := uq_ext (58 :: z) [34, c, 34] uq0 0 (by have := key_unq h; unfold unqM at this; rw [this])
  have hu2 : unqM (keyH c ++ z) = ([c], 3, 0, 0) := hu.trans (key_unq h)
  show tokM (34 :: (c :: 34 :: 58 :: z)) _ = _
  have hs : spellW 34 = none := rfl
  have hu3 : unqM (34 :: (c :: 34 :: 58 :: z)) = ([c], 3, 0, 0) := hu2
  simp only [tokM, hs, if_pos, litM, hu3]
  rw [if_neg (by decide)]
  simp
end
section
/-- A member's text ahead of its value, its key; the value's text, its tree. -/
abbrev Mem := (List UInt8 × List UInt8) × (List UInt8 × DT)
/-- What stands behind a member. -/
def joinY : List Mem → List UInt8
  | [] => [125]
  | y :: r => 44 :: (y.1.1 ++ (y.2.1 ++ joinY r))
theorem joinY_stop (r : List Mem) : stopZ (joinY r) := by
  cases r with
  | nil => exact ⟨by simp [joinY, headB, digB], by simp [joinY, headB], by simp [joinY, headB, expB]⟩
  | cons s r => exact ⟨by simp [joinY, headB, digB], by simp [joinY, headB], by simp [joinY, headB, expB]⟩
/-- A text that is read as a key and a colon. -/
def HeadOk (y : List UInt8 × List UInt8) : Prop := ∀ pre z, ∃ t', nextM (pre ++ (y.1 ++ z)) (pre.length : Nat) = (t', 0) ∧ t'.kind = 12 ∧
  ∀ (ks : List (List UInt8)) (t : Tok), y.2 ∉ ks → nextM (pre ++ (y.1 ++ z)) ((pre ++ y.1).length : Nat) = (t, 0) → headP (pre ++ (y.1 ++ z)) true ks t' = .ok (ks ++ [y.2], t)
theorem each_map : ∀ (r : List Mem) (x : Mem) (pre : List UInt8) (g : Nat) (many : Int) (ks : List (List UInt8)) (acc : List DT), (∀ y ∈ x :: r, HeadOk y.1 ∧ OkP y.2 ∧ 1 + depthD y.2.2 ≤ 64) →
    ((x :: r).map (·.1.2)).Nodup → (∀ y ∈ x :: r, y.1.2 ∉ ks) →
    2 * sizesD ((x :: r).map (·.2.2)) + 1 ≤ (g : Int) → many + sizesD ((x :: r).map (·.2.2)) ≤ 4096 →
    ∃ t' te, nextM (pre ++ (x.1.1 ++ (x.2.1 ++ joinY r))) (pre.length : Nat) = (t', 0) ∧ t'.kind = 12 ∧ te.kind = 0 ∧
      eachP (pre ++ (x.1.1 ++ (x.2.1 ++ joinY r))) g true 1 t' many ks acc = .ok (ks ++ (x :: r).map (·.1.2), acc ++ (x :: r).map (·.2.2), te, many + sizesD ((x :: r).map (·.2.2)))
  | r, x, pre, 0, many, ks, acc, hok, hnd, hks, hg, hm => by
    have := sizesD_nonneg ((x :: r).map (·.2.2))
    push_cast at hg
    omega
  | r, x, pre, g + 1, many, ks, acc, hok, hnd, hks, hg, hm => by
    obtain ⟨hkc, ⟨hl, t, t1, m, h1, h2, h3, h4, h5⟩, hdp⟩ := hok x (by simp)
    have hkx := hks x (by simp)
    have hz := joinY_stop r
    have hf := okP_first (pre := pre ++ x.1.1) hz h1 h3
    rw [List.append_assoc] at hf
    obtain ⟨t', i1, i2, hhd⟩ := hkc pre (x.2.1 ++ joinY r)
    replace hhd := hhd ks _ hkx hf
    have hcons : sizesD ((x :: r).map (·.2.2)) = sizeD x.2.2 + sizesD (r.map (·.2.2)) := by rw [List.map_cons, sizesD]
    have hr0 := sizesD_nonneg (r.map (·.2.2))
    have hT1 := size_pos x.2.2
    rw [hcons] at hg hm ⊢
    push_cast at hg
    have h12 : ¬ t'.kind = lastP true := by rw [i2]; decide
    have eA : ∀ z : List UInt8, pre ++ x.1.1 ++ z = pre ++ (x.1.1 ++ z) := fun z => List.append_assoc _ _ _
    have eQ : (pre ++ x.1.1 ++ x.2.1).length = (pre ++ x.1.1).length + x.2.1.length := List.length_append
    cases r with
    | nil =>
      have he0 := byte_tok (b := 125) (k := 2) rfl rfl (pre ++ x.1.1 ++ x.2.1) []
      rw [List.append_assoc (pre ++ x.1.1), eQ] at he0
      have hvs := (val_shift (pre := pre ++ x.1.1) (tz := ⟨2, (((pre ++ x.1.1).length + x.2.1.length : Nat) : Int), (((pre ++ x.1.1).length + x.2.1.length : Nat) : Int) + 1, 0, 0, []⟩) hz he0 (by omega) 8200).1 _ _ _ _ _ _ h2 h3 (by decide) (by decide) g 1 many (by omega) hdp (by omega)
      have hend := end_tok (pre ++ x.1.1 ++ (x.2.1 ++ [125]))
      refine ⟨t', (⟨0, ((pre ++ x.1.1 ++ (x.2.1 ++ [125])).length : Nat), ((pre ++ x.1.1 ++ (x.2.1 ++ [125])).length : Nat), 0, 0, []⟩ : Tok), i1, i2, rfl, ?_⟩
      rw [eachP, if_neg h12, hhd]
      dsimp only
      rw [eA] at hvs
      rw [hvs]
      dsimp only
      rw [imgT, if_pos h4, if_pos (show (2 : Int) = lastP true from rfl)]
      unfold shutP nextP
      have e : ((((pre ++ x.1.1).length + x.2.1.length : Nat) : Int) + 1) = ((pre ++ x.1.1 ++ (x.2.1 ++ [125])).length : Nat) := by simp only [List.length_append, List.length_singleton]; push_cast; omega
      dsimp only
      rw [e]
      rw [eA] at hend
      rw [show joinY [] = [125] from rfl, eA, hend, if_neg (fun h => h rfl)]
      simp [sizesD]
    | cons z r =>
      have he0 := byte_tok (b := 44) (k := 5) rfl rfl (pre ++ x.1.1 ++ x.2.1) (z.1.1 ++ (z.2.1 ++ joinY r))
      rw [List.append_assoc (pre ++ x.1.1), eQ] at he0
      have hvs := (val_shift (pre := pre ++ x.1.1) (tz := ⟨5, (((pre ++ x.1.1).length + x.2.1.length : Nat) : Int), (((pre ++ x.1.1).length + x.2.1.length : Nat) : Int) + 1, 0, 0, []⟩) hz he0 (by omega) 8200).1 _ _ _ _ _ _ h2 h3 (by decide) (by decide) g 1 many (by omega) hdp (by omega)
      rw [List.map_cons, List.nodup_cons] at hnd
      have hks' : ∀ y ∈ z :: r, y.1.2 ∉ ks ++ [x.1.2] := by
        intro y hy hin
        rcases List.mem_append.1 hin with hin | hin
        · exact hks y (List.mem_cons_of_mem _ hy) hin
        · simp only [List.mem_singleton] at hin
          exact hnd.1 (by rw [← hin]; exact List.mem_map.2 ⟨y, hy, rfl⟩)
      obtain ⟨tz, te, j1, j2, i3, i4⟩ := each_map r z (pre ++ x.1.1 ++ (x.2.1 ++ [44])) g (many + sizeD x.2.2) (ks ++ [x.1.2]) (acc ++ [x.2.2]) (fun y hy => hok y (List.mem_cons_of_mem _ hy)) hnd.2 hks' (by omega) (by omega)
      have eS : pre ++ x.1.1 ++ (x.2.1 ++ [44]) ++ (z.1.1 ++ (z.2.1 ++ joinY r)) = pre ++ (x.1.1 ++ (x.2.1 ++ joinY (z :: r))) := by simp [joinY]
      have eL : ((pre ++ x.1.1 ++ (x.2.1 ++ [44])).length : Nat) = (pre ++ x.1.1).length + x.2.1.length + 1 := by simp; omega
      rw [eS] at j1 i4
      rw [eL] at j1
      refine ⟨t', te, i1, i2, i3, ?_⟩
      rw [eachP, if_neg h12, hhd]
      dsimp only
      rw [eA] at hvs
      rw [hvs]
      dsimp only
      rw [imgT, if_pos h4]
      dsimp only
      have e : ((((pre ++ x.1.1).length + x.2.1.length : Nat) : Int) + 1) = (((pre ++ x.1.1).length + x.2.1.length + 1 : Nat) : Int) := by push_cast; rfl
      rw [e, if_neg (show ¬ (5 : Int) = lastP true by decide), if_neg (by decide), j1, if_neg (by rintro ⟨-, h⟩; dsimp only at h; rw [j2] at h; exact absurd h (by decide))]
      unfold nextP
      dsimp only
      rw [j1, if_neg (fun h => h rfl)]
      dsimp only
      rw [i4, List.append_assoc, List.append_assoc, Int.add_assoc]
      rfl
def bodyY : List Mem → List UInt8
  | [] => [125]
  | y :: r => y.1.1 ++ (y.2.1 ++ joinY r)
set_option maxRecDepth 100000 in
/-- Joined members are read as the map of the trees. -/
theorem par_map (r : List Mem) (hok : ∀ y ∈ r, HeadOk y.1 ∧ OkP y.2 ∧ 1 + depthD y.2.2 ≤ 64) (hnd : (r.map (·.1.2)).Nodup) (hs : 1 + sizesD (r.map (·.2.2)) ≤ 4096) (hl : (123 :: bodyY r).length ≤ 1048576) :
    parM (123 :: bodyY r) = (.mk 17 0 0 [] (r.map (·.1.2)) (r.map (·.2.2)), 0, 0) := by
  have h0 := byte_tok (b := 123) (k := 1) rfl rfl [] (bodyY r)
  rw [List.nil_append] at h0
  have hn0 : nextP (123 :: bodyY r) tok0 = .ok ⟨1, 0, 1, 0, 0, []⟩ := by
    unfold nextP
    rw [show tok0.to_ = (([] : List UInt8).length : Nat) from rfl, h0, if_neg (fun h => h rfl)]
    rfl
  have hr0 := sizesD_nonneg (r.map (·.2.2))
  have hval : ∃ te m, te.kind = 0 ∧ valP (123 :: bodyY r) 8200 0 ⟨1, 0, 1, 0, 0, []⟩ 0 = .ok (.mk 17 0 0 [] (r.map (·.1.2)) (r.map (·.2.2)), te, m) := by
    rw [valP, if_neg (by decide), if_neg (by decide), if_neg (by decide)]
    cases r with
    | nil =>
      refine ⟨⟨0, 2, 2, 0, 0, []⟩, 1, rfl, ?_⟩
      kernel_rfl
    | cons x r =>
      obtain ⟨t', te, i1, i2, i3, i4⟩ := each_map r x [123] 8199 1 [] [] hok hnd (fun y _ => by simp) (by push_cast; omega) (by omega)
      refine ⟨te, 1 + sizesD ((x :: r).map (·.2.2)), i3, ?_⟩
      have hn1 : nextP (123 :: bodyY (x :: r)) ⟨1, 0, 1, 0, 0, []⟩ = .ok t' := by
        unfold nextP
        rw [show (123 :: bodyY (x :: r)) = [123] ++ (x.1.1 ++ (x.2.1 ++ joinY r)) from rfl]
        rw [show (⟨1, 0, 1, 0, 0, []⟩ : Tok).to_ = (([123] : List UInt8).length : Nat) from rfl, i1, if_neg (fun h => h rfl)]
      rw [hn1]
      dsimp only
      rw [if_pos (.inr rfl)]
      have i4' : eachP (123 :: bodyY (x :: r)) 8199 (decide ((1 : Int) = 1)) (0 + 1) t' (0 + 1) [] [] = _ := i4
      rw [i4']
      rfl
  obtain ⟨te, m, hk, hv⟩ := hval
  unfold parM
  rw [if_neg (by omega), hn0]
  dsimp only
  rw [hv]
  dsimp only
  rw [if_neg (by rw [hk]; exact fun h => h rfl)]
/-- The keys of ParseLists. -/
def keyC (c : UInt8) : Prop := c = 97 ∨ c = 98 ∨ c = 99 ∨ c = 100 ∨ c = 101 ∨ c = 102
theorem keyC_nz {c : UInt8} (h : keyC c) : (0 : UInt8) ∉ [c] := by
  rcases h with rfl | rfl | rfl | rfl | rfl | rfl <;> decide
theorem head_key {c : UInt8} (h : keyC c) : HeadOk (keyH c, [c]) := by
  intro pre z
  refine ⟨_, key_tok h pre z, rfl, fun ks t hk ht => ?_⟩
  have h6 := byte_tok (b := 58) (k := 6) rfl rfl (pre ++ [34, c, 34]) z
  have eS : pre ++ [34, c, 34] ++ (58 :: z) = pre ++ (keyH c ++ z) := by simp [keyH]
  have eL : ((pre ++ [34, c, 34]).length : Nat) = pre.length + 3 := by simp
  have eK : ((pre ++ keyH c).length : Nat) = pre.length + 4 := by simp [keyH]
  dsimp only at ht hk ⊢
  rw [eS, eL] at h6
  rw [eK] at ht
  have h6' : nextM (pre ++ (keyH c ++ z)) ((pre.length : Int) + 3) = (⟨6, ((pre.length + 3 : Nat) : Int), ((pre.length + 3 : Nat) : Int) + 1, 0, 0, []⟩, 0) := h6
  have ht' : nextM (pre ++ (keyH c ++ z)) (((pre.length + 3 : Nat) : Int) + 1) = (t, 0) := by
    have e : (((pre.length + 3 : Nat) : Int) + 1) = ((pre.length + 4 : Nat) : Int) := by push_cast; omega
    rw [e]; exact ht
  unfold headP nextP
  dsimp only
  rw [h6', if_neg (by decide), if_neg (fun h => h rfl), if_neg (keyC_nz h), if_neg hk, if_neg (fun h => h rfl)]
  dsimp only
  rw [if_neg (fun h => h rfl), ht', if_neg (fun h => h rfl)]
end
section
def blankS (a : List UInt8) : Prop := ∀ c ∈ a, blankB c = true
theorem stop_blank {b : List UInt8} (hb : blankS b) : stopZ b := by
  cases b with
  | nil => exact ⟨rfl, rfl, rfl⟩
  | cons c b =>
    have h := hb c (by simp)
    simp only [blankB, Bool.or_eq_true, beq_iff_eq] at h
    rcases h with ((rfl | rfl) | rfl) | rfl <;> exact ⟨rfl, rfl, rfl⟩
theorem blanks_pre2 (a x : List UInt8) (ha : blankS a) : blanksN (a ++ x) = a.length + blanksN x := by
  obtain ⟨p1, p2⟩ := blanks_all x
  have := blanks_app (a ++ x.take (blanksN x)) (x.drop (blanksN x)) (fun c hc => by
    rcases List.mem_append.1 hc with hc | hc
    · exact ha c hc
    · exact p1 c hc) p2
  rw [List.append_assoc, List.take_append_drop, List.length_append, List.length_take, Nat.min_eq_left (blanks_le x)] at this
  exact this
theorem next_blank (p a x : List UInt8) (ha : blankS a) : nextM (p ++ (a ++ x)) (p.length : Nat) = nextM (p ++ (a ++ x)) ((p.length + a.length : Nat) : Int) := by
  have h0 := next_at (s := p ++ (a ++ x)) (e := p.length) (by simp)
  have h1 := next_at (s := p ++ (a ++ x)) (e := p.length + a.length) (by simp only [List.length_append]; omega)
  rw [List.drop_left, blanks_pre2 a x ha, ← List.drop_drop, List.drop_left] at h0
  rw [← List.drop_drop, List.drop_left, List.drop_left] at h1
  rw [h0, h1, show ((p.length : Nat) : Int) + ((a.length + blanksN x : Nat) : Int) = ((p.length + a.length : Nat) : Int) + (blanksN x : Int) by push_cast; omega]
theorem blanks_only {b : List UInt8} (hb : blankS b) : blanksN b = b.length := by
  have := blanks_pre2 b [] hb
  rw [List.append_nil] at this
  rw [this]
  rfl
theorem next_blank_end (p b : List UInt8) (hb : blankS b) : nextM (p ++ b) (p.length : Nat) = (⟨0, ((p.length + b.length : Nat) : Int), ((p.length + b.length : Nat) : Int), 0, 0, []⟩, 0) := by
  have h0 := next_at (s := p ++ b) (e := p.length) (by simp)
  rw [List.drop_left, blanks_only hb, List.drop_length] at h0
  rw [h0]
  simp only [tokM]
  push_cast
  rfl
/-- What is known of a parsed text. -/
theorem okP_size {y : List UInt8 × DT} (h : OkP y) : 1 ≤ sizeD y.2 ∧ sizeD y.2 ≤ 4096 ∧ depthD y.2 ≤ 64 := by
  obtain ⟨hl, t, t1, m, h1, h2, h3, h4, h5⟩ := h
  obtain ⟨l, r1, r2, r3, r4, r5, r6, -⟩ := (val_run y.1 (by omega) 8200).1 _ _ _ _ _ _ (nextP_wf (by omega) h1) h3
  have hm := (val_more y.1 8200).1 _ _ _ _ _ _ h3
  exact ⟨size_pos _, by omega, by omega⟩
theorem okP_blank {y : List UInt8 × DT} (h : OkP y) {a b : List UInt8} (ha : blankS a) (hb : blankS b) (hlen : (a ++ (y.1 ++ b)).length ≤ 1048576) : OkP (a ++ (y.1 ++ b), y.2) := by
  obtain ⟨z1, z2, z3⟩ := okP_size h
  obtain ⟨hl, t, t1, m, h1, h2, h3, h4, h5⟩ := h
  have hz := stop_blank hb
  have hf := okP_first (pre := a) hz h1 h3
  have he := next_blank_end (a ++ y.1) b hb
  rw [List.append_assoc, show (a ++ y.1).length = a.length + y.1.length from List.length_append] at he
  have hvs := (val_shift (pre := a) hz he (by omega) 8200).1 _ _ _ _ _ _ h2 h3 (by decide) (by decide) 8200 0 0 (by omega) (by omega) (by omega)
  rw [imgT, if_pos h4] at hvs
  have h0 : PosT (a ++ (y.1 ++ b)) tok0 := ⟨by decide, by show (0 : Int) ≤ _; omega, 0, rfl, by omega⟩
  have hn0 : nextP (a ++ (y.1 ++ b)) tok0 = .ok (shT a.length t) := by
    have hb0 := next_blank [] a (y.1 ++ b) ha
    rw [List.nil_append, List.length_nil, Nat.zero_add, hf] at hb0
    unfold nextP
    rw [show tok0.to_ = ((0 : Nat) : Int) from rfl, hb0, if_neg (fun h => h rfl)]
  have hp1 := nextP_pos h0
  rw [hn0] at hp1
  have hp2 := (val_pos (a ++ (y.1 ++ b)) 8200).1 0 (shT a.length t) 0 hp1 (by decide) (by decide)
  rw [hvs] at hp2
  exact ⟨hlen, _, _, _, hn0, hp1, hvs, rfl, hp2⟩
theorem par_of_ok {s : List UInt8} {T : DT} (h : OkP (s, T)) : parM s = (T, 0, 0) := by
  obtain ⟨hl, t, t1, m, h1, h2, h3, h4, h5⟩ := h
  dsimp only at hl h1 h3
  unfold parM
  rw [if_neg (by omega), h1]
  dsimp only
  rw [h3]
  dsimp only
  rw [if_neg (fun h => h h4)]
end
section
/-- A token that takes room. -/
def LongT (t : Tok) : Prop := t.kind ≠ 0 → t.from_ + 1 ≤ t.to_
theorem nextP_span {s : List UInt8} {t t1 : Tok} (hp : PosT s t) (h : nextP s t = .ok t1) : t.to_ ≤ t1.from_ ∧ LongT t1 := by
  obtain ⟨-, -, e, he, hle⟩ := hp
  unfold nextP at h
  rw [he] at h
  split at h
  · cases h
  rename_i h0
  cases h
  have h0' : (nextM s e).2 = 0 := Classical.not_not.1 h0
  have hn := next_at hle
  rw [hn] at h0' ⊢
  rw [he]
  by_cases hk : (tokM ((s.drop e).drop (blanksN (s.drop e))) ((e : Int) + blanksN (s.drop e))).1.kind = 0
  · refine ⟨?_, fun h => absurd hk h⟩
    cases hd : (s.drop e).drop (blanksN (s.drop e)) with
    | nil =>
      rw [tokM]
      show (e : Int) ≤ (e : Int) + blanksN (s.drop e)
      omega
    | cons c l =>
      rw [hd] at h0' hk
      exact absurd (tok_kind h0' hk) id
  · obtain ⟨k, kd, n, u, x, k1, k2, d1, d12, i1, -⟩ := tok_cover h0' hk
    rw [i1]
    exact ⟨by show (e : Int) ≤ (e : Int) + blanksN (s.drop e); omega, fun _ => by show (e : Int) + blanksN (s.drop e) + 1 ≤ (e : Int) + blanksN (s.drop e) + k; omega⟩
def VSpan (t : Tok) (T : DT) (t1 : Tok) : Prop := t.from_ + 2 * depthD T ≤ t1.from_ + 1 ∧ t.from_ + sizeD T ≤ t1.from_ ∧ LongT t1
def ESpan (t : Tok) (L : List DT) (t1 : Tok) : Prop := t.from_ + 2 * depthsD L ≤ t1.from_ ∧ t.from_ + sizesD L + 1 ≤ t1.from_ ∧ LongT t1
theorem depthsD_cons (T : DT) (L : List DT) : depthsD (T :: L) = max (depthD T) (depthsD L) := by rw [depthsD]
theorem head_span {s : List UInt8} {mp : Bool} {ks ks1 : List (List UInt8)} {t t1 : Tok} (hp : PosT s t) (hl : LongT t) (h : headP s mp ks t = .ok (ks1, t1)) : t.from_ ≤ t1.from_ ∧ LongT t1 := by
  unfold headP at h
  split at h
  · cases h; exact ⟨Int.le_refl _, hl⟩
  split at h
  · cases h
  rename_i h12
  split at h
  · cases h
  split at h
  · cases h
  split at h
  · cases h
  rename_i c hc
  split at h
  · cases h
  rename_i h6
  split at h
  · cases h
  rename_i t2 ht2
  cases h
  have e12 : t.kind = 12 := Classical.not_not.1 h12
  have e6 : c.kind = 6 := Classical.not_not.1 h6
  have hpc := nextP_pos hp
  rw [hc] at hpc
  have a1 := nextP_span hp hc
  have a2 := nextP_span hpc ht2
  have b1 := hl (by omega)
  have b2 := a1.2 (by omega)
  exact ⟨by omega, a2.2⟩
theorem val_span (s : List UInt8) : ∀ (g : Nat),
    (∀ deep t many T t1 m, PosT s t → LongT t → 2 * (4096 - many) + 1 ≤ (g : Int) → many ≤ 4096 → valP s g deep t many = .ok (T, t1, m) → VSpan t T t1) ∧
    (∀ mp deep t many ks acc ks1 l1 t1 m, PosT s t → LongT t → 2 * (4096 - many) + 2 ≤ (g : Int) → many ≤ 4096 → eachP s g mp deep t many ks acc = .ok (ks1, l1, t1, m) → ∃ L, l1 = acc ++ L ∧ ESpan t L t1) := by
  have hz0 : sizesD [] = 0 := by rw [sizesD]
  have hd0 : depthsD [] = 0 := by rw [depthsD]
  have hshut : ∀ (mp : Bool) (ks ks1 : List (List UInt8)) (acc l1 : List DT) (t t1 : Tok) (many m : Int), t.kind = lastP mp → PosT s t → LongT t → shutP s ks acc t many = .ok (ks1, l1, t1, m) → l1 = acc ∧ t.from_ + 1 ≤ t1.from_ ∧ LongT t1 := by
    intro mp ks ks1 acc l1 t t1 many m hk hp hl h
    unfold shutP at h
    split at h
    · cases h
    rename_i hn
    cases h
    have a := nextP_span hp hn
    have b := hl (by rw [hk]; exact (lastP_low mp).2.1)
    exact ⟨rfl, by omega, a.2⟩
  intro g
  induction g with
  | zero => exact ⟨fun deep t many T t1 m _ _ h => by omega, fun mp deep t many ks acc ks1 l1 t1 m _ _ h => by omega⟩
  | succ g ih =>
    refine ⟨fun deep t many T t1 m hp hl hg hm h => ?_, fun mp deep t many ks acc ks1 l1 t1 m hp hl hg hm h => ?_⟩
    · have hk0 := val_kind h
      have hpos := nextP_pos hp
      rw [valP] at h
      split at h
      · cases h
      split at h
      · cases h
      split at h
      · cases h
      rename_i h5 h64
      split at h
      · cases h
      rename_i t2 hn
      rw [hn] at hpos
      have a := nextP_span hp hn
      have b := hl hk0
      split at h
      · split at h
        · cases h
        rename_i ks l t3 m' he
        cases h
        obtain ⟨L, e1, e2, e3, e4⟩ := ih.2 _ _ _ _ _ _ _ _ _ _ hpos a.2 (by push_cast at hg; omega) (by omega) he
        rw [List.nil_append] at e1
        subst e1
        refine ⟨?_, ?_, e4⟩
        · rw [depthD]; omega
        · rw [sizeD]; omega
      · cases h
        have hs1 : sizeD (leafP t) = 1 ∧ depthD (leafP t) = 1 := by
          unfold leafP
          constructor
          · repeat' split
            all_goals (rw [sizeD, hz0]; rfl)
          · repeat' split
            all_goals (rw [depthD, hd0]; rfl)
        exact ⟨by rw [hs1.2]; omega, by rw [hs1.1]; omega, a.2⟩
    · rw [eachP] at h
      split at h
      · rename_i hk
        obtain ⟨e1, e2, e3⟩ := hshut mp _ _ _ _ _ _ _ _ hk hp hl h
        exact ⟨[], by simp [e1], by rw [hd0]; omega, by rw [hz0]; omega, e3⟩
      split at h
      · cases h
      rename_i ks' t1' hh
      have hp1 := head_pos (mp := mp) (ks := ks) hp
      rw [hh] at hp1
      dsimp only at hp1
      have hs := head_span hp hl hh
      split at h
      · cases h
      rename_i T t2 m' hv
      have hp2 := (val_pos s g).1 deep t1' many hp1 (by push_cast at hg; omega) hm
      rw [hv] at hp2
      dsimp only at hp2
      have hmm := (val_more s g).1 _ _ _ _ _ _ hv
      obtain ⟨v1, v2, v3⟩ := ih.1 _ _ _ _ _ _ hp1 hs.2 (by push_cast at hg; omega) hm hv
      have hT1 := size_pos T
      split at h
      · rename_i hk2
        obtain ⟨e1, e2, e3⟩ := hshut mp _ _ _ _ _ _ _ _ hk2 hp2 v3 h
        exact ⟨[T], e1, by rw [depthsD_cons, hd0]; omega, by rw [sizesD, hz0]; omega, e3⟩
      split at h
      · cases h
      rename_i h5
      split at h
      · cases h
      split at h
      · cases h
      rename_i t3 hn
      have h5' : t2.kind = 5 := Classical.not_not.1 h5
      have hp3 := nextP_pos hp2
      rw [hn] at hp3
      have a := nextP_span hp2 hn
      have b := v3 (by omega)
      obtain ⟨L, rfl, e2, e3, e4⟩ := ih.2 _ _ _ _ _ _ _ _ _ _ hp3 a.2 (by push_cast at hg; omega) (by omega) h
      have q1 := depthsD_nonneg L
      have q2 := sizesD_nonneg L
      exact ⟨T :: L, by simp, by rw [depthsD_cons]; omega, by rw [sizesD]; omega, e4⟩
theorem okP_span {y : List UInt8 × DT} (h : OkP y) : 2 * depthD y.2 ≤ y.1.length + 1 ∧ sizeD y.2 ≤ y.1.length := by
  obtain ⟨hl, t, t1, m, h1, h2, h3, h4, h5⟩ := h
  have h0 : PosT y.1 tok0 := ⟨by decide, by show (0 : Int) ≤ _; omega, 0, rfl, by omega⟩
  have a := nextP_span h0 h1
  obtain ⟨v1, v2, -⟩ := (val_span y.1 8200).1 _ _ _ _ _ _ h2 a.2 (by decide) (by decide) h3
  have := h5.2.1
  have := h2.1
  omega
/-- Texts, joined by commas. -/
def joinC : List (List UInt8) → List UInt8
  | [] => []
  | s :: r => s ++ r.flatMap (44 :: ·)
theorem joinC_snoc (es : List (List UInt8)) (e : List UInt8) : joinC (es ++ [e]) = joinC es ++ ((if es.length = 0 then [] else [44]) ++ e) := by
  cases es with
  | nil => simp [joinC]
  | cons s r => simp [joinC]
theorem joinL_flat (c : UInt8) : ∀ es : List (List UInt8), joinL c es = es.flatMap (44 :: ·) ++ [c]
  | [] => rfl
  | s :: r => by rw [joinL, joinL_flat c r]; simp
theorem bodyL_join (c : UInt8) (es : List (List UInt8)) : bodyL c es = joinC es ++ [c] := by
  cases es with
  | nil => rfl
  | cons s r => rw [bodyL, joinL_flat, joinC, List.append_assoc]
theorem joinY_flat : ∀ r : List Mem, joinY r = (r.map fun y => y.1.1 ++ y.2.1).flatMap (44 :: ·) ++ [125]
  | [] => rfl
  | y :: r => by rw [joinY, joinY_flat r]; simp
theorem bodyY_join (r : List Mem) : bodyY r = joinC (r.map fun y => y.1.1 ++ y.2.1) ++ [125] := by
  cases r with
  | nil => rfl
  | cons y r => rw [bodyY, joinY_flat, List.map_cons, joinC]; simp
/-- The members of ParseLists, with the keys from k on. -/
def memF : Nat → List (List UInt8 × DT) → List Mem
  | _, [] => []
  | k, y :: r => ((keyH (UInt8.ofNat (97 + k)), [UInt8.ofNat (97 + k)]), y) :: memF (k + 1) r
theorem memF_snoc : ∀ (r : List (List UInt8 × DT)) (k : Nat) (y : List UInt8 × DT), memF k (r ++ [y]) = memF k r ++ [((keyH (UInt8.ofNat (97 + (k + r.length))), [UInt8.ofNat (97 + (k + r.length))]), y)]
  | [], k, y => rfl
  | x :: r, k, y => by
    rw [List.cons_append, memF, memF_snoc r (k + 1) y, memF, List.length_cons]
    rw [show k + 1 + r.length = k + (r.length + 1) by omega]
    rfl
theorem memF_trees : ∀ (r : List (List UInt8 × DT)) (k : Nat), (memF k r).map (·.2.2) = r.map (·.2)
  | [], _ => rfl
  | y :: r, k => by rw [memF, List.map_cons, List.map_cons, memF_trees r (k + 1)]
theorem memF_len : ∀ (r : List (List UInt8 × DT)) (k : Nat), (memF k r).length = r.length
  | [], _ => rfl
  | y :: r, k => by rw [memF, List.length_cons, memF_len r (k + 1), List.length_cons]
theorem memF_keys : ∀ (r : List (List UInt8 × DT)) (k : Nat), (memF k r).map (·.1.2) = (List.range' k r.length).map fun j => [UInt8.ofNat (97 + j)]
  | [], _ => rfl
  | y :: r, k => by rw [memF, List.map_cons, memF_keys r (k + 1), List.length_cons, List.range'_succ, List.map_cons]
theorem memF_ok : ∀ (r : List (List UInt8 × DT)) (k : Nat), k + r.length ≤ 6 → (∀ y ∈ r, OkP y ∧ 1 + depthD y.2 ≤ 64) → ∀ y ∈ memF k r, HeadOk y.1 ∧ OkP y.2 ∧ 1 + depthD y.2.2 ≤ 64
  | [], _, _, _, y, hy => by cases hy
  | x :: r, k, hk, h, y, hy => by
    rw [List.length_cons] at hk
    rw [memF, List.mem_cons] at hy
    rcases hy with rfl | hy
    · refine ⟨head_key ?_, (h x (by simp)).1, (h x (by simp)).2⟩
      have : k = 0 ∨ k = 1 ∨ k = 2 ∨ k = 3 ∨ k = 4 ∨ k = 5 := by omega
      unfold keyC
      rcases this with rfl | rfl | rfl | rfl | rfl | rfl <;> decide
    · exact memF_ok r (k + 1) (by omega) (fun z hz => h z (List.mem_cons_of_mem _ hz)) y hy
/-- The keys of ParseLists' map. -/
def keysF (n : Nat) : List (List UInt8) := (List.range' 0 n).map fun j => [UInt8.ofNat (97 + j)]
theorem keysF_nodup {n : Nat} (h : n ≤ 6) : (keysF n).Nodup := by
  have : n = 0 ∨ n = 1 ∨ n = 2 ∨ n = 3 ∨ n = 4 ∨ n = 5 ∨ n = 6 := by omega
  rcases this with rfl | rfl | rfl | rfl | rfl | rfl | rfl <;> decide
theorem keysF_snoc (n : Nat) : keysF (n + 1) = keysF n ++ [[UInt8.ofNat (97 + n)]] := by
  unfold keysF
  rw [List.range'_concat, List.map_append]
  simp
theorem sizes_le : ∀ (r : List (List UInt8 × DT)), (∀ y ∈ r, OkP y ∧ y.1.length ≤ 100) → sizesD (r.map (·.2)) ≤ 100 * r.length
  | [], _ => by rw [List.map_nil, sizesD]; decide
  | y :: r, h => by
    rw [List.map_cons, sizesD, List.length_cons]
    have h1 := sizes_le r (fun z hz => h z (List.mem_cons_of_mem _ hz))
    have h2 := okP_span (h y (by simp)).1
    have h3 := (h y (by simp)).2
    omega
/-- What ParseLists' list and map are. -/
theorem lists_law (r : List (List UInt8 × DT)) (h6 : r.length ≤ 6) (hok : ∀ y ∈ r, OkP y ∧ y.1.length ≤ 100) (l1 : (joinC (r.map (·.1))).length ≤ 10000) (l2 : (joinC ((memF 0 r).map fun y => y.1.1 ++ y.2.1)).length ≤ 10000) :
    parM (91 :: (joinC (r.map (·.1)) ++ [93])) = (.mk 10 0 0 [] [] (r.map (·.2)), 0, 0) ∧ parM (123 :: (joinC ((memF 0 r).map fun y => y.1.1 ++ y.2.1) ++ [125])) = (.mk 17 0 0 [] (keysF r.length) (r.map (·.2)), 0, 0) := by
  have hd : ∀ y ∈ r, OkP y ∧ 1 + depthD y.2 ≤ 64 := fun y hy => ⟨(hok y hy).1, by have := okP_span (hok y hy).1; have := (hok y hy).2; omega⟩
  have hs := sizes_le r hok
  have e1 := bodyL_join 93 (r.map (·.1))
  have e2 := bodyY_join (memF 0 r)
  have ek : (memF 0 r).map (·.1.2) = keysF r.length := memF_keys r 0
  have et := memF_trees r 0
  constructor
  · rw [← e1]
    exact par_list r hd (by omega) (by rw [e1]; simp only [List.length_cons, List.length_append, List.length_nil]; omega)
  · rw [← e2]
    have := par_map (memF 0 r) (memF_ok r 0 (by omega) hd) (by rw [ek]; exact keysF_nodup h6) (by rw [et]; omega) (by rw [e2]; simp only [List.length_cons, List.length_append, List.length_nil]; omega)
    rw [ek, et] at this
    exact this
end
end Go.Proofs.YtccmhhmdenfecaaGreatDoor
