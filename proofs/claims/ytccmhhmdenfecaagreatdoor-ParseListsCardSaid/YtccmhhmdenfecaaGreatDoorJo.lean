/- Plain: the tokens that a parsed text consists of; its tree is valid, counts as many nodes as tokens that start a value. -/
import Derived.Test.YtccmhhmdenfecaaGreatDoorJa
import Derived.Test.YtccmhhmdenfecaaGreatDoorJb
import Derived.Test.YtccmhhmdenfecaaGreatDoorQa
import Derived.Test.YtccmhhmdenfecaaGreatDoorMf
import Derived.Test.YtccmhhmdenfecaaGreatDoorLz
namespace Go.Proofs.YtccmhhmdenfecaaGreatDoor
set_option linter.unusedVariables false
set_option linter.unusedSimpArgs false
/-- Tokens from one to another. -/
inductive Run (s : List UInt8) : Tok → List Tok → Tok → Prop
  | nil (t : Tok) : Run s t [] t
  | cons {t t1 t2 : Tok} {l : List Tok} (hk : t.kind ≠ 0) (h : nextP s t = .ok t1) (hr : Run s t1 l t2) : Run s t (t :: l) t2
theorem Run.app {s : List UInt8} {t t1 t2 : Tok} {a b : List Tok} (h : Run s t a t1) (k : Run s t1 b t2) : Run s t (a ++ b) t2 := by
  induction h with
  | nil t => exact k
  | cons hk h hr ih => exact .cons hk h (ih k)
theorem Run.one {s : List UInt8} {t t1 : Tok} (hk : t.kind ≠ 0) (h : nextP s t = .ok t1) : Run s t [t] t1 := .cons hk h (.nil _)
def valB (k : Int) : Bool := decide (7 ≤ k) || decide (k = 1) || decide (k = 3)
def hdK (l : List Tok) (nk : Int) : Int := match l with
  | [] => nk
  | t :: _ => t.kind
/-- How many tokens start a value; nk: the kind behind the last. -/
def cnt : List Tok → Int → Int
  | [], _ => 0
  | t :: l, nk => (if valB t.kind = true ∧ ¬ (t.kind = 12 ∧ hdK l nk = 6) then 1 else 0) + cnt l nk
theorem hdK_app (a b : List Tok) (nk : Int) : hdK (a ++ b) nk = hdK a (hdK b nk) := by cases a <;> rfl
theorem cnt_app : ∀ (a b : List Tok) (nk : Int), cnt (a ++ b) nk = cnt a (hdK b nk) + cnt b nk
  | [], b, nk => by simp [cnt]
  | t :: a, b, nk => by
    rw [List.cons_append, cnt, cnt, cnt_app a b nk, hdK_app]
    omega
mutual
/-- Every node is fine. -/
def FA : DT → Prop
  | .mk kd n u s ks l => Fine (.mk kd n u s ks l) ∧ FAs l
def FAs : List DT → Prop
  | [] => True
  | t :: ts => FA t ∧ FAs ts
end
mutual
theorem fa_nodes : ∀ (T : DT) (lv : Int), FA T → ∀ x ∈ nodesD lv T, Fine x.2
  | .mk kd n u s ks l, lv, h, x, hx => by
    rw [FA] at h
    rw [nodesD, List.mem_cons] at hx
    rcases hx with rfl | hx
    · exact h.1
    · exact fas_nodes l (lv + 1) h.2 x hx
theorem fas_nodes : ∀ (l : List DT) (lv : Int), FAs l → ∀ x ∈ nodessD lv l, Fine x.2
  | [], lv, _, x, hx => by rw [nodessD] at hx; cases hx
  | t :: ts, lv, h, x, hx => by
    rw [FAs] at h
    rw [nodessD, List.mem_append] at hx
    rcases hx with hx | hx
    · exact fa_nodes t lv h.1 x hx
    · exact fas_nodes ts lv h.2 x hx
end
theorem chk_fa {T : DT} (h : FA T) (hs : sizeD T ≤ 4096) (hd : depthD T ≤ 64) : chkD T = 0 := by
  refine foldE_zero _ _ fun i hi => ?_
  have hm := List.getElem_mem hi
  have h1 := fa_nodes T 0 h _ hm
  have h2 := nodes_lv 0 T _ hm
  have h3 := nodes_len 0 T
  unfold stepD
  rw [if_neg (by omega), if_neg (by omega), if_neg (by rw [h1.1]; simp)]
  exact h1.2
/-- The numbers of a token fit. -/
def TokWf (t : Tok) : Prop := in64 t.n ∧ inU t.u ∧ t.text.length ≤ 9223372036854775807
theorem wrong_wf (a e : Int) : TokWf (wrongT a e).1 := ⟨⟨by simp [wrongT], by simp [wrongT]⟩, ⟨by simp [wrongT], by simp [wrongT]⟩, by simp [wrongT]⟩
theorem int_wf (neg : Bool) (u : Nat) (a b : Int) : in64 (intT neg u a b).1.n ∧ inU (intT neg u a b).1.u := by
  unfold intT
  split
  · exact ⟨(wrong_wf a 101).1, (wrong_wf a 101).2.1⟩
  rename_i h
  split
  · rename_i hn; exact ⟨⟨by show -9223372036854775808 ≤ -(u : Int); simp [hn] at h; omega, by show -(u : Int) ≤ _; omega⟩, ⟨by simp, by simp⟩⟩
  split
  · exact ⟨⟨by simp, by simp⟩, ⟨by show (0 : Int) ≤ (u : Int); omega, by show (u : Int) ≤ 18446744073709551615; omega⟩⟩
  · exact ⟨⟨by show -9223372036854775808 ≤ (u : Int); omega, by show (u : Int) ≤ 9223372036854775807; omega⟩, ⟨by simp, by simp⟩⟩
theorem num_wf (l : List UInt8) (a : Int) : in64 (numM l a).1.n ∧ inU (numM l a).1.u := by
  have hw : ∀ a e, in64 (wrongT a e).1.n ∧ inU (wrongT a e).1.u := fun a e => ⟨(wrong_wf a e).1, (wrong_wf a e).2.1⟩
  have he : ∀ neg u pt l z a, in64 (numE neg u pt l z a).1.n ∧ inU (numE neg u pt l z a).1.u := by
    intro neg u pt l z a
    unfold numE
    split
    · split <;> exact hw _ _
    split
    · exact hw _ _
    · exact int_wf _ _ _ _
  unfold numM
  split
  · exact hw _ _
  · unfold numF
    split
    · split
      · exact hw _ _
      · exact he _ _ _ _ _ _
    · exact he _ _ _ _ _ _
theorem next_wf (s : List UInt8) (hl : s.length ≤ 1073741824) (a : Int) : TokWf (nextM s a).1 := by
  have ht := next_text s a
  refine ⟨?_, ?_, by omega⟩
  all_goals
    unfold nextM
    split
    · first | exact (wrong_wf _ _).1 | exact (wrong_wf _ _).2.1
    · generalize ((s.drop a.toNat).drop (blanksN (s.drop a.toNat))) = l
      generalize (a + (blanksN (s.drop a.toNat) : Int)) = b
      cases l with
      | nil => simp [tokM, in64, inU]
      | cons c l =>
        simp only [tokM]
        split
        · unfold wordM
          split
          · simp [in64, inU]
          · first | exact (wrong_wf _ _).1 | exact (wrong_wf _ _).2.1
        · split
          · unfold litM
            split
            · first | exact (wrong_wf _ _).1 | exact (wrong_wf _ _).2.1
            · simp [in64, inU]
          · split
            · first | exact (num_wf _ _).1 | exact (num_wf _ _).2
            · first | exact (wrong_wf _ _).1 | exact (wrong_wf _ _).2.1
theorem nextP_wf {s : List UInt8} (hl : s.length ≤ 1073741824) {t t1 : Tok} (h : nextP s t = .ok t1) : TokWf t1 := by
  unfold nextP at h
  split at h
  · cases h
  · cases h; exact next_wf s hl _
end Go.Proofs.YtccmhhmdenfecaaGreatDoor
