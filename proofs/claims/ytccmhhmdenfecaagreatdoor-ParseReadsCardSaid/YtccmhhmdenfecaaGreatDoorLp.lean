/- Plain laws of lex: an error's offset is the least; a token is determined by its own bytes. No program here. -/
import Derived.Test.YtccmhhmdenfecaaGreatDoorTv
namespace Go.Proofs.YtccmhhmdenfecaaGreatDoor
set_option linter.unusedVariables false
set_option linter.unusedSimpArgs false
/-- r is empty, or begins as l goes on at k. -/
def HeadAt (r l : List UInt8) (k : Nat) : Prop := r = [] ∨ ∃ c b, r = c :: b ∧ l[k]? = some c
theorem HeadAt.nil (l : List UInt8) (k : Nat) : HeadAt [] l k := .inl rfl
theorem HeadAt.drop {r l : List UInt8} {j k : Nat} (h : HeadAt r l (j + k)) : HeadAt r (l.drop j) k := by
  rcases h with h | ⟨c, b, h, hc⟩
  · exact .inl h
  · exact .inr ⟨c, b, h, by rw [List.getElem?_drop]; exact hc⟩
theorem HeadAt.headB {r l : List UInt8} {k : Nat} {p : UInt8 → Bool} (h : HeadAt r l k) (hn : headB p (l.drop k) = false) : headB p r = false := by
  rcases h with rfl | ⟨c, b, rfl, hc⟩
  · rfl
  · unfold Go.Proofs.YtccmhhmdenfecaaGreatDoor.headB at hn ⊢
    rw [List.head?_drop, hc] at hn
    simpa using hn
theorem digs_zero {l : List UInt8} : digs l = 0 ↔ headB digB l = false := by
  cases l with
  | nil => simp [digs, headB]
  | cons x t =>
    unfold digs headB
    rw [List.takeWhile_cons]
    by_cases h : digB x = true
    · simp [h]
    · simp [h]
theorem digs_all : ∀ (l : List UInt8), (∀ c ∈ l.take (digs l), digB c = true) ∧ headB digB (l.drop (digs l)) = false
  | [] => by simp [digs, headB]
  | x :: t => by
    by_cases h : digB x = true
    · have e : digs (x :: t) = digs t + 1 := by simp [digs, h]
      rw [e, List.take_succ_cons, List.drop_succ_cons]
      obtain ⟨h1, h2⟩ := digs_all t
      refine ⟨fun c hc => ?_, h2⟩
      rcases List.mem_cons.1 hc with rfl | hc
      · exact h
      · exact h1 c hc
    · have e : digs (x :: t) = 0 := by simp [digs, h]
      rw [e]
      exact ⟨fun c hc => by simp at hc, by simpa [headB] using h⟩
theorem digs_app : ∀ (x y : List UInt8), (∀ c ∈ x, digB c = true) → headB digB y = false → digs (x ++ y) = x.length
  | [], y, _, h => by rw [List.nil_append]; exact digs_zero.2 h
  | c :: x, y, hx, h => by
    have := digs_app x y (fun c hc => hx c (by simp [hc])) h
    have hc := hx c (by simp)
    unfold digs at this ⊢
    rw [List.cons_append, List.takeWhile_cons, hc]
    simp [this]
theorem head_app {p : UInt8 → Bool} {x y : List UInt8} (h : x ≠ []) : headB p (x ++ y) = headB p x := by
  cases x with
  | nil => exact absurd rfl h
  | cons c x => rfl
/-- x is the whole part of a number before y. -/
def WholeOk (x y : List UInt8) : Prop := x = [48] ∨ ((∀ c ∈ x, digB c = true) ∧ headB (· == 48) x = false ∧ x ≠ [] ∧ headB digB y = false)
theorem WholeOk.ne {x y : List UInt8} (h : WholeOk x y) : x ≠ [] := by
  rcases h with rfl | h
  · simp
  · exact h.2.2.1
theorem WholeOk.len {x y : List UInt8} (h : WholeOk x y) : wholeN (x ++ y) = x.length := by
  rcases h with rfl | ⟨h1, h2, h3, h4⟩
  · rfl
  · unfold wholeN
    rw [head_app h3, h2]
    simp only [Bool.false_eq_true, if_false]
    exact digs_app x y h1 h4
theorem WholeOk.to {x y y' : List UInt8} (h : WholeOk x y) (h' : headB digB y = false → headB digB y' = false) : WholeOk x y' := by
  rcases h with h | ⟨h1, h2, h3, h4⟩
  · exact .inl h
  · exact .inr ⟨h1, h2, h3, h' h4⟩
theorem spell_first {c : UInt8} {w : List UInt8} {k : Int} (h : spellW c = some (w, k)) : ∃ v, w = c :: v ∧ 1 ≤ k ∧ k ≤ 9 := by
  unfold spellW at h
  (repeat' split at h) <;> first | (cases h; subst_vars; exact ⟨_, rfl, by omega, by omega⟩) | cases h
end Go.Proofs.YtccmhhmdenfecaaGreatDoor
