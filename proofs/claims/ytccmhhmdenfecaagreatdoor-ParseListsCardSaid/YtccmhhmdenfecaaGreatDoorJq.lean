/- Plain: where Parse's errors lie; what Parse's result says of lex.All's. -/
import Derived.Test.YtccmhhmdenfecaaGreatDoorJp
namespace Go.Proofs.YtccmhhmdenfecaaGreatDoor
set_option linter.unusedVariables false
set_option linter.unusedSimpArgs false
/-- A token of a text. -/
def PosT (s : List UInt8) (t : Tok) : Prop := 0 ≤ t.from_ ∧ t.from_ ≤ s.length ∧ ∃ m : Nat, t.to_ = m ∧ m ≤ s.length
theorem next_pos {s : List UInt8} {e : Nat} (he : e ≤ s.length) (h : (nextM s e).2 = 0) : PosT s (nextM s e).1 := by
  have hn := next_at he
  have hbl := blanks_le (s.drop e)
  rw [List.length_drop] at hbl
  rw [hn] at h ⊢
  by_cases hk : (tokM ((s.drop e).drop (blanksN (s.drop e))) ((e : Int) + blanksN (s.drop e))).1.kind = 0
  · cases hd : (s.drop e).drop (blanksN (s.drop e)) with
    | nil =>
      rw [tokM]
      exact ⟨by show (0 : Int) ≤ (e : Int) + blanksN (s.drop e); omega, by show (e : Int) + blanksN (s.drop e) ≤ s.length; omega, e + blanksN (s.drop e), by push_cast; rfl, by omega⟩
    | cons c l =>
      rw [hd] at h hk
      exact absurd (tok_kind h hk) id
  · obtain ⟨k, kd, n, u, x, k1, k2, d1, d12, i1, -⟩ := tok_cover h hk
    rw [i1]
    rw [List.length_drop, List.length_drop] at k2
    exact ⟨by show (0 : Int) ≤ (e : Int) + blanksN (s.drop e); omega, by show (e : Int) + blanksN (s.drop e) ≤ s.length; omega, e + blanksN (s.drop e) + k, by push_cast; rfl, by omega⟩
/-- An error's place, its number. -/
def BdE (s : List UInt8) (x : Int × Int) : Prop := 0 ≤ x.1 ∧ x.1 ≤ s.length ∧ x.2 ≠ 0
theorem nextP_pos {s : List UInt8} {t : Tok} (h : PosT s t) : match nextP s t with
    | .ok t1 => PosT s t1
    | .error x => BdE s x := by
  obtain ⟨-, -, m, h3, h4⟩ := h
  unfold nextP
  rw [h3]
  by_cases h0 : (nextM s m).2 = 0
  · rw [if_neg (by simpa using h0)]
    exact next_pos h4 h0
  · rw [if_pos h0]
    have := next_bd h4 h0
    exact ⟨this.1, this.2, h0⟩
theorem at_bd {s : List UInt8} {t : Tok} (h : PosT s t) (e : Int) (he : e ≠ 0) : BdE s (t.from_, e) := ⟨h.1, h.2.1, he⟩
theorem shut_pos {s : List UInt8} {ks : List (List UInt8)} {acc : List DT} {t : Tok} {many : Int} (h : PosT s t) : match shutP s ks acc t many with
    | .ok p => PosT s p.2.2.1
    | .error x => BdE s x := by
  have hn := nextP_pos h
  unfold shutP
  cases hq : nextP s t with
  | error x => rw [hq] at hn; exact hn
  | ok t1 => rw [hq] at hn; exact hn
theorem head_pos {s : List UInt8} {mp : Bool} {ks : List (List UInt8)} {t : Tok} (h : PosT s t) : match headP s mp ks t with
    | .ok p => PosT s p.2
    | .error x => BdE s x := by
  unfold headP
  by_cases h1 : mp = false
  · rw [if_pos h1]; exact h
  rw [if_neg h1]
  by_cases h2 : t.kind ≠ 12
  · rw [if_pos h2]; exact at_bd h _ (by decide)
  rw [if_neg h2]
  by_cases h3 : (0 : UInt8) ∈ t.text
  · rw [if_pos h3]; exact at_bd h _ (by decide)
  rw [if_neg h3]
  by_cases h4 : t.text ∈ ks
  · rw [if_pos h4]; exact at_bd h _ (by decide)
  rw [if_neg h4]
  have hn := nextP_pos h
  cases hq : nextP s t with
  | error x => rw [hq] at hn; exact hn
  | ok t1 =>
    rw [hq] at hn
    dsimp only
    by_cases h6 : t1.kind ≠ 6
    · rw [if_pos h6]; exact at_bd hn _ (by decide)
    rw [if_neg h6]
    have hn2 := nextP_pos hn
    cases hq2 : nextP s t1 with
    | error x => rw [hq2] at hn2; exact hn2
    | ok t2 => rw [hq2] at hn2; exact hn2
theorem val_pos (s : List UInt8) : ∀ (g : Nat), (∀ deep t many, PosT s t → 2 * (4096 - many) + 1 ≤ (g : Int) → many ≤ 4096 → match valP s g deep t many with
      | .ok p => PosT s p.2.1
      | .error x => BdE s x) ∧
    (∀ mp deep t many ks acc, PosT s t → 2 * (4096 - many) + 2 ≤ (g : Int) → many ≤ 4096 → match eachP s g mp deep t many ks acc with
      | .ok p => PosT s p.2.2.1
      | .error x => BdE s x) := by
  intro g
  induction g with
  | zero => exact ⟨fun deep t many _ h _ => by omega, fun mp deep t many ks acc _ h _ => by omega⟩
  | succ g ih =>
    refine ⟨fun deep t many ht hg hm => ?_, fun mp deep t many ks acc ht hg hm => ?_⟩
    · rw [valP]
      by_cases h1 : bgB t.kind = false
      · rw [if_pos h1]; exact at_bd ht _ (by decide)
      rw [if_neg h1]
      by_cases h2 : 4096 ≤ many
      · rw [if_pos h2]; exact at_bd ht _ (by decide)
      rw [if_neg h2]
      by_cases h3 : 64 ≤ deep
      · rw [if_pos h3]; exact at_bd ht _ (by decide)
      rw [if_neg h3]
      have hn := nextP_pos ht
      cases hq : nextP s t with
      | error x => rw [hq] at hn; exact hn
      | ok t1 =>
        rw [hq] at hn
        dsimp only at hn ⊢
        by_cases h4 : t.kind = 3 ∨ t.kind = 1
        · rw [if_pos h4]
          have he := ih.2 (decide (t.kind = 1)) (deep + 1) t1 (many + 1) [] [] hn (by push_cast at hg; omega) (by omega)
          cases hq2 : eachP s g (decide (t.kind = 1)) (deep + 1) t1 (many + 1) [] [] with
          | error x => rw [hq2] at he; exact he
          | ok p => rw [hq2] at he; exact he
        · rw [if_neg h4]; exact hn
    · rw [eachP]
      by_cases h1 : t.kind = lastP mp
      · rw [if_pos h1]; exact shut_pos ht
      rw [if_neg h1]
      have hh := head_pos (mp := mp) (ks := ks) ht
      cases hq : headP s mp ks t with
      | error x => rw [hq] at hh; exact hh
      | ok p =>
        obtain ⟨ks1, t1⟩ := p
        rw [hq] at hh
        dsimp only at hh ⊢
        have hv := ih.1 deep t1 many hh (by push_cast at hg; omega) hm
        cases hq2 : valP s g deep t1 many with
        | error x => rw [hq2] at hv; exact hv
        | ok p =>
          obtain ⟨T, t2, m⟩ := p
          rw [hq2] at hv
          dsimp only at hv ⊢
          have hmm := (val_more s g).1 _ _ _ _ _ _ hq2
          by_cases h2 : t2.kind = lastP mp
          · rw [if_pos h2]; exact shut_pos hv
          rw [if_neg h2]
          by_cases h5 : t2.kind ≠ 5
          · rw [if_pos h5]; exact at_bd hv _ (by decide)
          rw [if_neg h5]
          have hn := nextP_pos hv
          by_cases h7 : (nextM s t2.to_).2 = 0 ∧ (nextM s t2.to_).1.kind = lastP mp
          · rw [if_pos h7]
            unfold nextP at hn
            rw [if_neg (by simpa using h7.1)] at hn
            exact at_bd hn _ (by decide)
          rw [if_neg h7]
          cases hq3 : nextP s t2 with
          | error x => rw [hq3] at hn; exact hn
          | ok t3 =>
            rw [hq3] at hn
            exact ih.2 mp deep t3 m ks1 (acc ++ [T]) hn (by push_cast at hg; omega) (by omega)
theorem run_all {s : List UInt8} {t t1 : Tok} {l : List Tok} (h : Run s t l t1) (h1 : t1.kind = 0) : ∀ (f e : Nat) (acc : List Tok), nextM s e = (t, 0) → e ≤ s.length → s.length < f + e → allN s f e acc = (acc ++ l, 0, 0) := by
  induction h with
  | nil t =>
    intro f e acc hn he hf
    cases f with
    | zero => omega
    | succ f => rw [allN, hn, if_neg (by simp), if_pos h1, List.append_nil]
  | cons hk hp hr ih =>
    rename_i t t2 t3 l
    intro f e acc hn he hf
    cases f with
    | zero => omega
    | succ f =>
      obtain ⟨m, m1, m2, m3⟩ := next_step he (by rw [hn]) (by rw [hn]; exact hk)
      rw [hn] at m1
      dsimp only at m1
      have hn2 : nextM s m = (t2, 0) := by
        unfold nextP at hp
        rw [m1] at hp
        split at hp
        · cases hp
        · rename_i h0
          cases hp
          have h0' : (nextM s m).2 = 0 := by simpa using h0
          rw [← h0']
      rw [allN, hn, if_neg (by simp), if_neg hk]
      dsimp only
      rw [m1, ih h1 f m _ hn2 m3 (by omega), List.append_assoc]
      rfl
/-- What a text's result says. -/
theorem par_no {s : List UInt8} (hl : s.length ≤ 1048576) (h : (parM s).2.2 ≠ 0) : (parM s).1 = zeroD ∧ 0 ≤ (parM s).2.1 ∧ (parM s).2.1 ≤ s.length := by
  have h0 : PosT s tok0 := ⟨by decide, by show (0 : Int) ≤ s.length; omega, 0, rfl, by omega⟩
  unfold parM at h ⊢
  rw [if_neg (by omega)] at h ⊢
  have hn := nextP_pos h0
  cases hq : nextP s tok0 with
  | error x => rw [hq] at hn; exact ⟨rfl, hn.1, hn.2.1⟩
  | ok t =>
    rw [hq] at hn h
    dsimp only at hn h ⊢
    have hv := (val_pos s 8200).1 0 t 0 hn (by decide) (by decide)
    cases hq2 : valP s 8200 0 t 0 with
    | error x => rw [hq2] at hv; exact ⟨rfl, hv.1, hv.2.1⟩
    | ok p =>
      obtain ⟨T, t1, m⟩ := p
      rw [hq2] at hv h
      dsimp only at hv h ⊢
      by_cases hk : t1.kind ≠ 0
      · rw [if_pos hk]; exact ⟨rfl, hv.1, hv.2.1⟩
      · rw [if_neg hk] at h; exact absurd rfl h
theorem par_yes {s : List UInt8} (hl : s.length ≤ 1048576) (h : (parM s).2.2 = 0) : (parM s).2.1 = 0 ∧ (∃ l, allM s = (l, 0, 0) ∧ cnt l 0 = sizeD (parM s).1) ∧ chkD (parM s).1 = 0 ∧ WfD (parM s).1 ∧ sizeD (parM s).1 ≤ 4096 ∧ depthD (parM s).1 ≤ 64 := by
  have h0 : PosT s tok0 := ⟨by decide, by show (0 : Int) ≤ s.length; omega, 0, rfl, by omega⟩
  unfold parM at h ⊢
  rw [if_neg (by omega)] at h ⊢
  have hn := nextP_pos h0
  cases hq : nextP s tok0 with
  | error x => rw [hq] at hn h; exact absurd h hn.2.2
  | ok t =>
    rw [hq] at hn h
    dsimp only at hn h ⊢
    have hv := (val_pos s 8200).1 0 t 0 hn (by decide) (by decide)
    cases hq2 : valP s 8200 0 t 0 with
    | error x => rw [hq2] at hv h; exact absurd h hv.2.2
    | ok p =>
      obtain ⟨T, t1, m⟩ := p
      rw [hq2] at hv h
      dsimp only at hv h ⊢
      by_cases hk : t1.kind ≠ 0
      · rw [if_pos hk] at h; exact absurd h (show ¬ (100 : Int) = 0 by decide)
      · rw [if_neg hk]
        have hk' : t1.kind = 0 := Classical.byContradiction hk
        obtain ⟨l, r1, r2, r3, r4, r5, r6, -⟩ := (val_run s (by omega) 8200).1 _ _ _ _ _ _ (nextP_wf (by omega) hq) hq2
        have hm := (val_more s 8200).1 _ _ _ _ _ _ hq2
        have hall : allM s = (l, 0, 0) := by
          unfold allM
          rw [if_neg (by omega)]
          have hn0 : nextM s (0 : Nat) = (t, 0) := by
            unfold nextP at hq
            split at hq
            · cases hq
            · rename_i h0
              cases hq
              have h0' : (nextM s tok0.to_).2 = 0 := by simpa using h0
              show nextM s tok0.to_ = _
              rw [← h0']
          have := run_all r1 hk' (s.length + 1) 0 [] hn0 (by omega) (by omega)
          rwa [List.nil_append] at this
        exact ⟨rfl, ⟨l, hall, r2 0 (by decide)⟩, chk_fa r5 (by dsimp only; omega) (by dsimp only; omega), r6, by dsimp only; omega, by dsimp only; omega⟩
end Go.Proofs.YtccmhhmdenfecaaGreatDoor
