/- A quiet call in a region that draws its order may be taken first: it leaves every world that meets S as it is. -/
import Derived.Deep.RegionHeld3
import Derived.Test.YtmpflnlajakibaaIn
namespace Go.Proofs.Ytmpflnlajakibaa
set_option linter.unusedVariables false
set_option linter.unusedSimpArgs false
set_option linter.unusedSectionVars false
section
variable {P : Program} {ops : Array Oper} {Q : Exit → Act → World → Prop} {md : Region.Mode} {S : World → Prop}
/-- Operation o is wanted and calls a function that hands back v and leaves the world as it is. -/
def Still (P : Program) (ops : Array Oper) (S : World → Prop) (o : Oper) (v : Value) (a : Act) : Prop :=
  Region.wanted o (yielded ops a.tmps) = true ∧ ∀ w, S w → ∃ f args, (execOp a.eval o).run P w = .ok (.enter f args) w ∧ Calls P f args w fun e w' => e = .returned v ∧ w' = w
theorem Still.now {i : Nat} {o : Oper} {v : Value} {a : Act} (hi : ops[i]? = some o) (hy : Still P ops S o v a) {K : Act → World → Prop} {w : World} (hS : S w) (h : K (a.put o.dst v) w) : wpOp P ops Q i K a w := by
  obtain ⟨hw, hc⟩ := hy
  obtain ⟨f, args, hrun, hcall⟩ := hc w hS
  unfold Go.wpOp
  simp only [hi, hw, if_true]
  refine .inl ?_
  unfold Oper.wp
  rw [hrun]
  refine Calls.mono hcall fun e w' he => ?_
  obtain ⟨rfl, rfl⟩ := he
  exact h
theorem Still.past {j : Nat} {oi oj : Oper} {v : Value} (hj : ops[j]? = some oj) (hap : oi.apart ops oj = true) (hsi : ∀ cs b, oi.op ≠ .select cs b) (hsj : ∀ cs b, oj.op ≠ .select cs b)
    (hQ : ∀ c a w, Q (.panic c) (a.put oi.dst v) w → Q (.panic c) a w) {K : Act → World → Prop} {a : Act} {w : World} (hy : Still P ops S oi v a) (h : wpOp P ops Q j K (a.put oi.dst v) w) :
    wpOp P ops Q j (fun a' w' => Still P ops S oi v a' ∧ K (a'.put oi.dst v) w') a w := by
  obtain ⟨p1, p2, p3⟩ := Oper.apart_spec hap
  have hput : ∀ (b : Act), Still P ops S oi v b → ∀ u, Still P ops S oi v (b.put oj.dst u) := fun b hb u => by
    unfold Still
    rw [execOp_put oi hsi b oj.dst u p3, wanted_put oi b oj.dst u p3]
    exact hb
  have hdef : ∀ d, Still P ops S oi v { a with defers := d :: a.defers } := fun d => hy
  unfold wpOp at h ⊢
  simp only [hj] at h ⊢
  rw [wanted_put oj a oi.dst v p1] at h
  by_cases hwj : Region.wanted oj (yielded ops a.tmps) = true
  · simp only [hwj, if_true] at h ⊢
    rcases h with h | ⟨h1, h2⟩
    · refine .inl ?_
      unfold Oper.wp at h ⊢
      rw [execOp_put oj hsj a oi.dst v p1] at h
      cases hr : (execOp a.eval oj).run P w with
      | halt x w' =>
        rw [hr] at h
        cases x <;> simp only [Oper.upon] at h ⊢
        exact hQ _ _ _ h
      | ok n w' =>
        rw [hr] at h
        cases n with
        | value u =>
          simp only [Oper.upon] at h ⊢
          rw [Act.put_comm a v u p2] at h
          exact ⟨hput a hy u, h⟩
        | skip =>
          simp only [Oper.upon] at h ⊢
          rw [Act.put_comm a v undef p2] at h
          exact ⟨hput a hy undef, h⟩
        | defer d =>
          simp only [Oper.upon] at h ⊢
          refine ⟨hput _ (hdef d) undef, ?_⟩
          rw [← Act.put_comm _ v undef p2, ← Act.put_defers]
          exact h
        | enter f args =>
          simp only [Oper.upon] at h ⊢
          refine Calls.mono h fun e w2 he => ?_
          cases e with
          | outgrown => exact he
          | panicked c => exact hQ _ _ _ he
          | returned u =>
            refine ⟨hput a hy u, ?_⟩
            rw [← Act.put_comm a v u p2]
            exact he
        | row row args =>
          simp only [Oper.upon] at h ⊢
          refine Rows.mono h fun u w2 he => ⟨hput a hy u, ?_⟩
          rw [← Act.put_comm a v u p2]
          exact he
        | _ => simp only [Oper.upon] at h
    · refine .inr ⟨?_, h2⟩
      unfold Oper.asks at h1 ⊢
      rw [execOp_put oj hsj a oi.dst v p1] at h1
      exact h1
  · simp only [hwj] at h ⊢
    refine ⟨hput a hy undef, ?_⟩
    rw [← Act.put_comm a v undef p2]
    exact h
theorem still_first {i : Nat} {oi : Oper} {v : Value} (hi : ops[i]? = some oi) (hsel : ∀ (j : Nat) (o : Oper) cs b, ops[j]? = some o → o.op ≠ .select cs b) (hQ : ∀ c a w, Q (.panic c) (a.put oi.dst v) w → Q (.panic c) a w) (fuel : Nat) :
    ∀ (listed : Array Bool) (a : Act) (w : World), (∀ j oj, ops[j]? = some oj → j ≠ i → listed.getD j true = false → (∀ e ∈ oj.after, Region.binds md e = true → e.on ≠ i) → oi.apart ops oj = true) → i ∈ Region.ready md ops listed → Still P ops S oi v a → S w →
      wpAnyH P md ops Q S fuel (listed.setIfInBounds i true) (a.put oi.dst v) w → wpAnyH P md ops Q S (fuel + 1) listed a w := by
  induction fuel with
  | zero =>
    intro listed a w _ hr hy hS H
    refine ⟨fun h0 => absurd hr (by rw [h0]; exact List.not_mem_nil), fun j hj => ?_⟩
    by_cases hji : j = i
    · rw [hji]; exact hy.now hi hS ⟨hS, H⟩
    · exact absurd (ready_mono hj hji) (by rw [H.1]; exact List.not_mem_nil)
  | succ fuel ih =>
    intro listed a w hfree hr hy hS H
    refine ⟨fun h0 => absurd hr (by rw [h0]; exact List.not_mem_nil), fun j hj => ?_⟩
    by_cases hji : j = i
    · rw [hji]; exact hy.now hi hS ⟨hS, H⟩
    obtain ⟨hju, oj, hoj, hall⟩ := mem_ready.1 hj
    have hwait : ∀ e ∈ oj.after, Region.binds md e = true → e.on ≠ i := by
      intro e he hb heq
      have hd := hall e he hb
      have hu := (mem_ready.1 hr).1
      rw [heq] at hd
      by_cases hlt : i < listed.size
      · simp [hlt] at hd hu; rw [hd] at hu; cases hu
      · simp [Array.getElem?_eq_none (Nat.le_of_not_lt hlt)] at hu
    have hp := hy.past hoj (hfree j oj hoj hji hju hwait) (fun cs b => hsel i oi cs b hi) (fun cs b => hsel j oj cs b hoj) hQ (H.2 j (ready_mono hj hji))
    refine wpOp_mono (fun a' w' h3 => ⟨h3.2.1, ih (listed.setIfInBounds j true) a' w' ?_ (ready_mono hr (Ne.symm hji)) h3.1 h3.2.1 ?_⟩) hp
    · intro k ok hk hki hun hno
      refine hfree k ok hk hki ?_ hno
      by_cases hjk : j = k
      · rw [← hjk]; exact hju
      · rw [getD_set_ne true hjk] at hun; exact hun
    · rw [Array.setIfInBounds_comm _ _ hji]
      exact h3.2.2
/-- Take the quiet call number i first. -/
theorem take_call {i : Nat} {oi : Oper} {v : Value} {fuel : Nat} {listed : Array Bool} {a : Act} {w : World} (hi : ops[i]? = some oi) (hs : Region.noSelect ops = true) (hf : Region.free md ops listed i = true) (hr : (Region.ready md ops listed).contains i = true)
    (hQ : ∀ c a w, Q (.panic c) (a.put oi.dst v) w → Q (.panic c) a w) (hw : Region.wanted oi (yielded ops a.tmps) = true) (hy : ∀ w, S w → ∃ f args, (execOp a.eval oi).run P w = .ok (.enter f args) w ∧ Calls P f args w fun e w' => e = .returned v ∧ w' = w) (hS : S w)
    (h : wpAnyH P md ops Q S fuel (listed.setIfInBounds i true) (a.put oi.dst v) w) : wpAnyH P md ops Q S (fuel + 1) listed a w :=
  still_first hi (Region.noSelect_spec hs) hQ fuel listed a w (Region.free_spec hi hf) (by simpa using hr) ⟨hw, hy⟩ hS h
end
end Go.Proofs.Ytmpflnlajakibaa
