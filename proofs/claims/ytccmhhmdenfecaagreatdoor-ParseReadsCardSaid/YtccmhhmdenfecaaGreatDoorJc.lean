/- Regions that draw their order: each operation by itself (a copy of the laws of other texts), and a region that makes one map and fills it in any order. Over any program. -/
import Derived.ProofKit
import Derived.Handy
import Derived.Deep.RegionLaw
import Derived.Test.YtccmhhmdenfecaaGreatDoorEa
namespace Go.Proofs.YtccmhhmdenfecaaGreatDoor
set_option linter.unusedVariables false
set_option linter.unusedSimpArgs false
set_option linter.unusedSectionVars false
section
section
open Go.RowKit
variable {P : Program} {ops : Array Oper} {md : Region.Mode} {Q : Exit → Act → World → Prop}
theorem wpAny_inv (I : Array Bool → Act → World → Prop) (hend : ∀ listed a w, I listed a w → Region.ready md ops listed = [] → Q .normal a w)
    (hstep : ∀ listed a w i, I listed a w → i ∈ Region.ready md ops listed → wpOp P ops Q i (I (listed.setIfInBounds i true)) a w) :
    ∀ (fuel : Nat) (listed : Array Bool) (a : Act) (w : World) (l : List Nat), l.length ≤ fuel → (∀ j, j < ops.size → listed.getD j true = false → j ∈ l) → I listed a w → wpAny P md ops Q fuel listed a w := by
  have hlt : ∀ (listed : Array Bool) j, j ∈ Region.ready md ops listed → j < ops.size ∧ listed.getD j true = false := by
    intro listed j hj
    obtain ⟨h0, o, ho, -⟩ := mem_ready.1 hj
    exact ⟨(Array.getElem?_eq_some_iff.1 ho).1, h0⟩
  intro fuel
  induction fuel with
  | zero =>
    intro listed a w l hl hm hI
    have hr : Region.ready md ops listed = [] := by
      rw [List.eq_nil_iff_forall_not_mem]
      intro j hj
      obtain ⟨h1, h2⟩ := hlt listed j hj
      have := hm j h1 h2
      have hl0 : l = [] := List.eq_nil_of_length_eq_zero (by omega)
      rw [hl0] at this
      cases this
    exact ⟨hr, hend _ _ _ hI hr⟩
  | succ fuel ih =>
    intro listed a w l hl hm hI
    refine ⟨fun hr => hend _ _ _ hI hr, fun i hi => ?_⟩
    obtain ⟨h1, h2⟩ := hlt listed i hi
    have hil := hm i h1 h2
    refine wpOp_mono (fun a' w' hI' => ih (listed.setIfInBounds i true) a' w' (l.erase i) ?_ ?_ hI') (hstep listed a w i hI hi)
    · rw [List.length_erase_of_mem hil]
      omega
    · intro j hj hun
      have hji : i ≠ j := by
        rintro rfl
        have hls : i < listed.size := by
          rcases Nat.lt_or_ge i listed.size with h | h
          · exact h
          · simp [Array.getElem?_eq_none h] at h2
        simp [hls] at hun
      rw [getD_set_ne true hji] at hun
      exact (List.mem_erase_of_ne (Ne.symm hji)).2 (hm j hj hun)
/-- What a slot holds; the blocks that it leans on are not b. -/
abbrev Posts := Nat → Tmp → Value → World → Prop
/-- Blocks stand but b. -/
def ExtB (b : Nat) (w w' : World) : Prop := w.heap.size ≤ w'.heap.size ∧ ∀ k, k < w.heap.size → k ≠ b → w'.heap[k]? = w.heap[k]?
theorem ExtB.below {b : Nat} {w w' : World} (h : Below w.heap.size w w') : ExtB b w w' := ⟨h.size, fun k hk _ => h.block k hk⟩
/-- One operation of the region: it is wanted, and gives its slot's value. -/
def OpOk (P : Program) (ops : Array Oper) (Q : Exit → Act → World → Prop) (posts : Posts) (w0 : World) (o : Oper) : Prop :=
  ∀ (B : Nat → Prop) (a : Act) (w : World), (∃ b, B b) → Below w0.heap.size w0 w → (∀ b, B b → ∀ t ∈ o.looksAt ops, posts b t (a.eval (.tmp t)) w) →
    Region.wanted o (yielded ops a.tmps) = true ∧
    o.wp P a w (fun a' w' => Below w.heap.size w w' ∧ ∃ v, a' = a.put o.dst v ∧ ∀ d, o.dst = some d → ∀ b, B b → (b < w.heap.size ∨ w'.heap.size ≤ b) → posts b d v w') Q
/-- The region's shape, a matter of counting: slots differ, lie in the frame; what an operation looks at lies ahead of it. -/
def eachB (ops : Array Oper) (n : Nat) : Bool :=
  (List.range ops.size).all fun i => match ops[i]? with
    | none => true
    | some o => (o.after.all fun e => !Region.binds .any e || decide (e.on < i))
      && (match o.dst with
        | none => true
        | some d => decide (d < n) && (List.range ops.size).all fun j => j == i || ((ops[j]?).bind (·.dst)) != some d)
      && (o.looksAt ops).all fun t => (List.range ops.size).all fun j => ((ops[j]?).bind (·.dst)) != some t || o.after.any fun e => Region.binds .any e && e.on == j
theorem eachB_dst {n i : Nat} {o : Oper} {d : Tmp} (h : eachB ops n = true) (hi : ops[i]? = some o) (hd : o.dst = some d) : d < n ∧ ∀ j oj, ops[j]? = some oj → oj.dst = some d → j = i := by
  have hlt := (Array.getElem?_eq_some_iff.1 hi).1
  have h1 := List.all_eq_true.1 h i (List.mem_range.2 hlt)
  simp only [hi, hd, Bool.and_eq_true, decide_eq_true_eq] at h1
  refine ⟨h1.1.2.1, fun j oj hj hdj => ?_⟩
  have h2 := List.all_eq_true.1 h1.1.2.2 j (List.mem_range.2 (Array.getElem?_eq_some_iff.1 hj).1)
  simp only [hj, Option.bind_some, hdj, Bool.or_eq_true, beq_iff_eq, bne_self_eq_false, Bool.false_eq_true, or_false] at h2
  exact h2
theorem eachB_looks {n i j : Nat} {o oj : Oper} {t : Tmp} {listed : Array Bool} (h : eachB ops n = true) (hi : ops[i]? = some o) (ht : t ∈ o.looksAt ops) (hj : ops[j]? = some oj) (hdj : oj.dst = some t)
    (hall : ∀ e ∈ o.after, Region.binds .any e = true → listed.getD e.on false = true) : listed.getD j false = true := by
  have hlt := (Array.getElem?_eq_some_iff.1 hi).1
  have h1 := List.all_eq_true.1 h i (List.mem_range.2 hlt)
  simp only [hi, Bool.and_eq_true] at h1
  have h2 := List.all_eq_true.1 h1.2 t ht
  have h3 := List.all_eq_true.1 h2 j (List.mem_range.2 (Array.getElem?_eq_some_iff.1 hj).1)
  simp only [hj, Option.bind_some, hdj, bne_self_eq_false, Bool.false_or] at h3
  obtain ⟨e, he, hb⟩ := Array.any_eq_true'.1 h3
  simp only [Bool.and_eq_true, beq_iff_eq] at hb
  have := hall e he hb.1
  rwa [hb.2] at this
theorem eachB_done {n : Nat} {listed : Array Bool} (h : eachB ops n = true) (hs : listed.size = ops.size) (hr : Region.ready .any ops listed = []) : ∀ j, j < ops.size → listed.getD j false = true := by
  intro j
  induction j using Nat.strongRecOn with
  | _ j ih =>
    intro hj
    cases hc : listed.getD j false with
    | true => rfl
    | false =>
      exfalso
      have h1 := List.all_eq_true.1 h j (List.mem_range.2 hj)
      obtain ⟨o, ho⟩ : ∃ o, ops[j]? = some o := ⟨_, Array.getElem?_eq_getElem hj⟩
      simp only [ho, Bool.and_eq_true] at h1
      have hmem : j ∈ Region.ready .any ops listed := by
        refine mem_ready.2 ⟨?_, o, ho, fun e he hb => ?_⟩
        · have hjl : j < listed.size := by omega
          simpa [hjl] using hc
        · have h2 := Array.all_eq_true_iff_forall_mem.1 h1.1.1 e he
          simp only [hb, Bool.not_true, Bool.false_or, decide_eq_true_eq] at h2
          exact ih e.on h2 (by omega)
      rw [hr] at hmem
      cases hmem
/-- The slots that are done hold what they shall. -/
def SlotsB (ops : Array Oper) (posts : Posts) (b : Nat) (listed : Array Bool) (a : Act) (w : World) : Prop :=
  ∀ t, (∀ (j : Nat) (o : Oper), ops[j]? = some o → o.dst = some t → listed.getD j false = true) → posts b t (a.eval (.tmp t)) w
theorem eval_put_self {a : Act} {d : Tmp} {v : Value} (h : d < a.tmps.size) : (a.put (some d) v).eval (.tmp d) = v := by
  simp [Act.put, Act.eval, Array.getD_eq_getD_getElem?, Array.getElem?_setIfInBounds_self_of_lt h]
theorem SlotsB.set {n i b : Nat} {posts : Posts} {o : Oper} {listed : Array Bool} {a : Act} {w w' : World} {v : Value} (hst : ∀ (b : Nat) (t : Tmp) (v : Value) (w w' : World), ExtB b w w' → posts b t v w → posts b t v w') (hB : eachB ops n = true) (hi : ops[i]? = some o) (hz : a.tmps.size = n)
    (h : SlotsB ops posts b listed a w) (hE : ExtB b w w') (hv : ∀ d, o.dst = some d → posts b d v w') : SlotsB ops posts b (listed.setIfInBounds i true) (a.put o.dst v) w' := by
  intro t ht
  by_cases hd : o.dst = some t
  · have hlt := (eachB_dst hB hi hd).1
    rw [hd, eval_put_self (show t < a.tmps.size by rw [hz]; exact hlt)]
    exact hv t hd
  · have e : (a.put o.dst v).eval (.tmp t) = a.eval (.tmp t) := Act.eval_put fun d hd' e => hd (by cases e; exact hd')
    rw [e]
    refine hst b t _ _ _ hE (h t fun j oj hj hdj => ?_)
    have := ht j oj hj hdj
    have hji : i ≠ j := by
      rintro rfl
      rw [hi] at hj
      cases hj
      exact hd hdj
    rwa [getD_set_ne false hji] at this
/-- A region that makes one block (operation ia) which the operations of iss write in any order. -/
theorem wp_region_eachM {id n ia : Nat} {a0 : Act} {w0 : World} {oa : Oper} {p : Tmp} {ob : Obj} (iss : List Nat) (posts : Posts) (blk : Nat → (Nat → Bool) → World → Prop) (hm : P.follows .mixedOrders = true) (hB : eachB ops n = true) (hn : a0.tmps.size = n)
    (hst : ∀ (b : Nat) (t : Tmp) (v : Value) (w w' : World), ExtB b w w' → posts b t v w → posts b t v w')
    (hsb : ∀ (b : Nat) (S : Nat → Bool) (w w' : World), b < w.heap.size → Below w.heap.size w w' → blk b S w → blk b S w')
    (hsc : ∀ (b : Nat) (S S' : Nat → Bool) (w : World), (∀ i ∈ iss, S i = S' i) → blk b S w → blk b S' w)
    (h0 : ∀ b, w0.heap.size ≤ b → ∀ t, (∀ (j : Nat) (o : Oper), ops[j]? = some o → o.dst ≠ some t) → posts b t (a0.eval (.tmp t)) w0)
    (hia : ops[ia]? = some oa) (hda : oa.dst = some p) (hga : oa.guard = none) {V : Nat → Value} (hal : ∀ (a : Act) (w : World) (K : Act → World → Prop), K (a.put oa.dst (V w.heap.size)) (w.alloc ob) → oa.wp P a w K Q)
    (hpa : ∀ b w, posts b p (V b) w) (hba : ∀ (w : World), blk w.heap.size (fun _ => false) (w.alloc ob))
    (hallis : ∀ i ∈ iss, i < ops.size) (hiss : ia ∉ iss) (his : ∀ i ∈ iss, ∀ os, ops[i]? = some os → os.dst = none ∧ (os.after.any fun e => Region.binds .any e && e.on == ia) = true)
    (hstore : ∀ i ∈ iss, ∀ os, ops[i]? = some os → ∀ (b : Nat) (S : Nat → Bool) (a : Act) (w : World), Below w0.heap.size w0 w → w0.heap.size ≤ b → b < w.heap.size → (∀ t ∈ os.looksAt ops, posts b t (a.eval (.tmp t)) w) → S i = false → blk b S w →
      Region.wanted os (yielded ops a.tmps) = true ∧ os.wp P a w (fun a' w' => a' = a ∧ ExtB b w w' ∧ w'.heap.size = w.heap.size ∧ Below w0.heap.size w0 w' ∧ blk b (fun j => if j = i then true else S j) w') Q)
    (hops : ∀ (i : Nat) (o : Oper), ops[i]? = some o → i ≠ ia → i ∉ iss → OpOk P ops Q posts w0 o)
    (hend : ∀ (b : Nat) (a : Act) (w : World), Below w0.heap.size w0 w → a.defers = a0.defers → a.tmps.size = n → w0.heap.size ≤ b → b < w.heap.size → (∀ t, posts b t (a.eval (.tmp t)) w) → blk b (fun _ => true) w → Q .normal a w) :
    (Code.region id ops true).wp P Q a0 w0 := by
  refine wp_region_any hm ?_
  have hd0 : Below w0.heap.size w0 { w0 with drawn := w0.drawn + 1 } := (Below.refl _ w0).drew
  refine wpAny_inv (fun listed a w => Below w0.heap.size w0 w ∧ a.defers = a0.defers ∧ a.tmps.size = n ∧ listed.size = ops.size ∧
    ((listed.getD ia false = false ∧ (∀ i ∈ iss, listed.getD i false = false) ∧ ∀ b, w.heap.size ≤ b → SlotsB ops posts b listed a w) ∨
     (listed.getD ia false = true ∧ ∃ b, w0.heap.size ≤ b ∧ b < w.heap.size ∧ SlotsB ops posts b listed a w ∧ blk b (fun j => listed.getD j false) w))) ?_ ?_ ops.size _ a0 _ (List.range ops.size) (by simp) (fun j hj _ => List.mem_range.2 hj) ⟨hd0, rfl, hn, by simp, .inl ⟨?_, ?_, fun b hb t ht => ?_⟩⟩
  · rintro listed a w ⟨h1, h2, h3, hs, h4⟩ hr
    have hall := eachB_done hB hs hr
    have hla := hall ia (Array.getElem?_eq_some_iff.1 hia).1
    rcases h4 with ⟨k, -, -⟩ | ⟨-, b, k1, k2, k3, k4⟩
    · rw [hla] at k; cases k
    · refine hend b a w h1 h2 h3 k1 k2 (fun t => k3 t fun j o hj hdj => hall j (Array.getElem?_eq_some_iff.1 hj).1) (hsc b _ _ w (fun i hi => ?_) k4)
      by_cases hlt : i < ops.size
      · exact hall i hlt
      · exfalso
        have hno := hallis i hi
        exact hlt hno
  · rintro listed a w i ⟨h1, h2, h3, hs, h4⟩ hi
    obtain ⟨hun, o, ho, hall⟩ := mem_ready.1 hi
    have hil := (Array.getElem?_eq_some_iff.1 ho).1
    have hun2 : listed.getD i false = false := by
      have : i < listed.size := by omega
      simpa [this] using hun
    have hself : (listed.setIfInBounds i true).getD i false = true := by
      have : i < listed.size := by omega
      simp [this]
    unfold wpOp
    by_cases hcase : i = ia
    · subst hcase
      rw [hia] at ho
      cases ho
      have hw : Region.wanted oa (yielded ops a.tmps) = true := by simp [Region.wanted, hga]
      simp only [hia, hw, if_true]
      refine .inl (hal a w _ ?_)
      rcases h4 with ⟨-, k2, k3⟩ | ⟨k, -⟩
      · have hbw : Below w.heap.size w (w.alloc ob) := (Below.refl _ w).alloc (Nat.le_refl _) _
        refine ⟨h1.trans (hbw.mono h1.size), ?_, ?_, by simpa using hs, .inr ⟨hself, w.heap.size, h1.size, by simp, ?_, ?_⟩⟩
        · rw [← h2, hda]; rfl
        · rw [← h3, hda]; simp [Act.put]
        · exact SlotsB.set hst hB hia h3 (k3 _ (Nat.le_refl _)) (ExtB.below hbw) fun d hd => by rw [hda] at hd; cases hd; exact hpa _ _
        · refine hsc _ _ _ _ (fun j hj => ?_) (hba w)
          have hji : i ≠ j := by
            rintro rfl
            exact hiss hj
          rw [getD_set_ne false hji, k2 j hj]
      · rw [hun2] at k; cases k
    by_cases hcase2 : i ∈ iss
    · obtain ⟨hds, hafter⟩ := his i hcase2 o ho
      rcases h4 with ⟨k, -, -⟩ | ⟨k, b, k1, k2, k3, k4⟩
      · exfalso
        obtain ⟨e, he, hb⟩ := Array.any_eq_true'.1 hafter
        simp only [Bool.and_eq_true, beq_iff_eq] at hb
        have := hall e he hb.1
        rw [hb.2, k] at this
        cases this
      · obtain ⟨hw, hwp⟩ := hstore i hcase2 o ho b _ a w h1 k1 k2 (fun t ht => k3 t fun j oj hj hdj => eachB_looks hB ho ht hj hdj hall) hun2 k4
        simp only [ho, hw, if_true]
        refine .inl (Oper.wp_mono ?_ hwp)
        rintro a' w' ⟨rfl, q1, q2, q3, q4⟩
        refine ⟨q3, h2, h3, by simpa using hs, .inr ⟨by rw [getD_set_ne false hcase]; exact k, b, k1, by omega, ?_, hsc _ _ _ _ (fun j hj => ?_) q4⟩⟩
        · intro t ht
          refine hst b t _ _ _ q1 (k3 t fun j oj hj hdj => ?_)
          have := ht j oj hj hdj
          have hji : i ≠ j := by
            rintro rfl
            rw [ho] at hj
            cases hj
            rw [hds] at hdj
            cases hdj
          rwa [getD_set_ne false hji] at this
        · by_cases hji : j = i
          · subst hji
            rw [if_pos rfl, hself]
          · rw [if_neg hji, getD_set_ne false (fun e => hji e.symm)]
    have hok := hops i o ho hcase hcase2
    rcases h4 with ⟨k1, k2, k3⟩ | ⟨k, b, k1, k2, k3, k4⟩
    · obtain ⟨hw, hwp⟩ := hok (fun b => w.heap.size ≤ b) a w ⟨_, Nat.le_refl _⟩ h1 (fun b hb t ht => k3 b hb t fun j oj hj hdj => eachB_looks hB ho ht hj hdj hall)
      simp only [ho, hw, if_true]
      refine .inl (Oper.wp_mono ?_ hwp)
      rintro a' w' ⟨hb', v, rfl, hv⟩
      have hsz := hb'.size
      refine ⟨h1.trans (hb'.mono h1.size), ?_, ?_, by simpa using hs, .inl ⟨by rw [getD_set_ne false hcase]; exact k1, fun j hj => by rw [getD_set_ne false (fun e => hcase2 (by rw [e]; exact hj))]; exact k2 j hj, fun b hb => SlotsB.set hst hB ho h3 (k3 b (by omega)) (ExtB.below hb') fun d hd => hv d hd b (by omega) (.inr hb)⟩⟩
      · rw [← h2]; cases o.dst <;> rfl
      · rw [← h3]; cases o.dst <;> simp [Act.put]
    · obtain ⟨hw, hwp⟩ := hok (fun x => x = b) a w ⟨_, rfl⟩ h1 (fun x hx t ht => by subst hx; exact k3 t fun j oj hj hdj => eachB_looks hB ho ht hj hdj hall)
      simp only [ho, hw, if_true]
      refine .inl (Oper.wp_mono ?_ hwp)
      rintro a' w' ⟨hb', v, rfl, hv⟩
      have hsz := hb'.size
      refine ⟨h1.trans (hb'.mono h1.size), ?_, ?_, by simpa using hs, .inr ⟨by rw [getD_set_ne false hcase]; exact k, b, k1, by omega, SlotsB.set hst hB ho h3 k3 (ExtB.below hb') fun d hd => hv d hd b rfl (.inl k2), hsc _ _ _ _ (fun j hj => ?_) (hsb b _ _ _ k2 hb' k4)⟩⟩
      · rw [← h2]; cases o.dst <;> rfl
      · rw [← h3]; cases o.dst <;> simp [Act.put]
      · rw [getD_set_ne false (fun e => hcase2 (by rw [e]; exact hj))]
  · have := (Array.getElem?_eq_some_iff.1 hia).1
    simp [this]
  · intro i hi
    have := hallis i hi
    simp [this]
  · refine hst b t _ _ _ (ExtB.below (w := w0) ((Below.refl _ w0).drew)) (h0 b hb t fun j o hj hd => ?_)
    have := ht j o hj hd
    have hjl := (Array.getElem?_eq_some_iff.1 hj).1
    simp [hjl] at this
end
end
section
open Go.RowKit
theorem opwp_call {P : Program} {o : Oper} {a : Act} {w : World} {K : Act → World → Prop} {Q : Exit → Act → World → Prop} {f : FuncId} {args : Array Value} (R : Value → World → Prop)
    (hx : (execOp a.eval o).run P w = .ok (.enter f args) w) (hc : Calls P f args w fun e w' => ∃ v, e = .returned v ∧ R v w') (hK : ∀ v w', R v w' → K (a.put o.dst v) w') : o.wp P a w K Q := by
  unfold Oper.wp
  rw [hx, Oper.upon_enter]
  refine hc.mono ?_
  rintro e w' ⟨v, rfl, h⟩
  exact hK v w' h
theorem exec_call {P : Program} {o : Oper} {a : Act} {w : World} {f : FuncId} {fn : Func} {xs : List Operand} {ts : Array TypeId} (vs : List Value) (hf : P.funcs[f]? = some fn) (hn : (fn.name == "runtime.NumGoroutine") = false) (hb : fn.body.isNone = false)
    (hop : o.op = .call { callee := .value (.func f), args := xs.toArray, argTypes := ts }) (hv : xs.map a.eval = vs) :
    (execOp a.eval o).run P w = .ok (.enter f vs.toArray) w := by
  subst hv
  have hn2 : ¬ fn.name = "runtime.NumGoroutine" := by simpa using hn
  have hb2 : ¬ fn.body = none := by intro e; rw [e] at hb; cases hb
  simp [execOp, hop, resolve, invoke, Act.eval, Sem.run_bind, Sem.run_pure, Result.andThen_ok, Deferred.ofValue, callFunc, hf, hn2, hb2]
theorem opwp_val {P : Program} {o : Oper} {a : Act} {w w' : World} {K : Act → World → Prop} {Q : Exit → Act → World → Prop} (v : Value)
    (hx : (execOp a.eval o).run P w = .ok (.value v) w') (hK : K (a.put o.dst v) w') : o.wp P a w K Q := by
  unfold Oper.wp
  rw [hx]
  exact hK
end
section
open Go.RowKit
variable {P : Program} {ops : Array Oper} {Q : Exit → Act → World → Prop}
def puts (f : Tmp → Value) (a : Act) (ds : List Tmp) : Act := ds.foldl (fun a d => a.put (some d) (f d)) a
theorem put_size (a : Act) (d : Tmp) (v : Value) : (a.put (some d) v).tmps.size = a.tmps.size := by simp [Act.put]
theorem puts_size (f : Tmp → Value) : ∀ (ds : List Tmp) (a : Act), (puts f a ds).tmps.size = a.tmps.size
  | [], _ => rfl
  | d :: ds, a => by
    show (puts f (a.put (some d) (f d)) ds).tmps.size = _
    rw [puts_size f ds, put_size]
theorem puts_defers (f : Tmp → Value) : ∀ (ds : List Tmp) (a : Act), (puts f a ds).defers = a.defers
  | [], _ => rfl
  | d :: ds, a => by
    show (puts f (a.put (some d) (f d)) ds).defers = _
    rw [puts_defers f ds]
    rfl
theorem puts_eval (f : Tmp → Value) : ∀ (ds : List Tmp) (a : Act) (t : Tmp), t < a.tmps.size → (puts f a ds).eval (.tmp t) = if t ∈ ds then f t else a.eval (.tmp t)
  | [], _, _, _ => by simp [puts]
  | d :: ds, a, t, h => by
    show (puts f (a.put (some d) (f d)) ds).eval (.tmp t) = _
    rw [puts_eval f ds _ t (by rw [put_size]; exact h)]
    by_cases hm : t ∈ ds
    · rw [if_pos hm, if_pos (List.mem_cons_of_mem _ hm)]
    · rw [if_neg hm]
      by_cases hd : t = d
      · subst hd
        rw [if_pos (by simp), eval_put_self h]
      · rw [if_neg (by simp [hd, hm])]
        exact Act.eval_put fun d' h1 h2 => by cases h1; cases h2; exact hd rfl
theorem act_eq {a a' : Act} (h1 : a.tmps.size = a'.tmps.size) (h2 : a.defers = a'.defers) (h : ∀ t, t < a.tmps.size → a.eval (.tmp t) = a'.eval (.tmp t)) : a = a' := by
  obtain ⟨T, D⟩ := a
  obtain ⟨T', D'⟩ := a'
  dsimp only at h1 h2 h
  subst h2
  congr 1
  apply Array.ext h1
  intro i hi hi'
  have := h i hi
  simpa [Act.eval, Array.getD, hi, hi'] using this
/-- All slots that the operations set. -/
def dsB (ops : Array Oper) (ds : List Tmp) : Bool := ops.toList.all fun o => match o.dst with | none => true | some d => ds.contains d
theorem dsB_spec {ds : List Tmp} (h : dsB ops ds = true) {j : Nat} {o : Oper} {d : Tmp} (hj : ops[j]? = some o) (hd : o.dst = some d) : d ∈ ds := by
  have hm : o ∈ ops.toList := by rw [← Array.getElem?_toList] at hj; exact List.mem_of_getElem? hj
  have := List.all_eq_true.1 h o hm
  simp only [hd] at this
  simpa using this
def Keeps (ops : Array Oper) (a0 : Act) (posts : Posts) : Posts := fun b t v w => posts b t v w ∧ ((∀ (j : Nat) (o : Oper), ops[j]? = some o → o.dst ≠ some t) → v = a0.eval (.tmp t))
theorem OpOk.keeps {posts : Posts} {w0 : World} {a0 : Act} {i : Nat} {o : Oper} (hi : ops[i]? = some o) (h : OpOk P ops Q posts w0 o) : OpOk P ops Q (Keeps ops a0 posts) w0 o := by
  intro B a w hB hb hk
  obtain ⟨h1, h2⟩ := h B a w hB hb fun b hb t ht => (hk b hb t ht).1
  refine ⟨h1, Oper.wp_mono ?_ h2⟩
  rintro a' w' ⟨q1, v, q2, q3⟩
  exact ⟨q1, v, q2, fun d hd b hb hbb => ⟨q3 d hd b hb hbb, fun hn => absurd hd (hn i o hi)⟩⟩
theorem puts_of {a a0 : Act} {w : World} {posts : Posts} {b : Nat} {ds : List Tmp} (hds : dsB ops ds = true) (h1 : a.defers = a0.defers) (h2 : a.tmps.size = a0.tmps.size) (h : ∀ t, Keeps ops a0 posts b t (a.eval (.tmp t)) w) : a = puts (fun d => a.eval (.tmp d)) a0 ds := by
  refine act_eq (by rw [puts_size]; exact h2) (by rw [puts_defers]; exact h1) fun t ht => ?_
  rw [puts_eval _ _ _ _ (by rw [← h2]; exact ht)]
  by_cases hm : t ∈ ds
  · rw [if_pos hm]
  · rw [if_neg hm]
    exact (h t).2 fun j o hj hd => hm (dsB_spec hds hj hd)
theorem wp_region_eachMP {id n ia : Nat} {a0 : Act} {w0 : World} {oa : Oper} {p : Tmp} {ob : Obj} (iss : List Nat) (ds : List Tmp) (posts : Posts) (blk : Nat → (Nat → Bool) → World → Prop) (hm : P.follows .mixedOrders = true) (hB : eachB ops n = true) (hn : a0.tmps.size = n) (hdsb : dsB ops ds = true)
    (hst : ∀ (b : Nat) (t : Tmp) (v : Value) (w w' : World), ExtB b w w' → posts b t v w → posts b t v w')
    (hsb : ∀ (b : Nat) (S : Nat → Bool) (w w' : World), b < w.heap.size → Below w.heap.size w w' → blk b S w → blk b S w')
    (hsc : ∀ (b : Nat) (S S' : Nat → Bool) (w : World), (∀ i ∈ iss, S i = S' i) → blk b S w → blk b S' w)
    (h0 : ∀ b, w0.heap.size ≤ b → ∀ t, (∀ (j : Nat) (o : Oper), ops[j]? = some o → o.dst ≠ some t) → posts b t (a0.eval (.tmp t)) w0)
    (hia : ops[ia]? = some oa) (hda : oa.dst = some p) (hga : oa.guard = none) {V : Nat → Value} (hal : ∀ (a : Act) (w : World) (K : Act → World → Prop), K (a.put oa.dst (V w.heap.size)) (w.alloc ob) → oa.wp P a w K Q)
    (hpa : ∀ b w, posts b p (V b) w) (hba : ∀ (w : World), blk w.heap.size (fun _ => false) (w.alloc ob))
    (hallis : ∀ i ∈ iss, i < ops.size) (hiss : ia ∉ iss) (his : ∀ i ∈ iss, ∀ os, ops[i]? = some os → os.dst = none ∧ (os.after.any fun e => Region.binds .any e && e.on == ia) = true)
    (hstore : ∀ i ∈ iss, ∀ os, ops[i]? = some os → ∀ (b : Nat) (S : Nat → Bool) (a : Act) (w : World), Below w0.heap.size w0 w → w0.heap.size ≤ b → b < w.heap.size → (∀ t ∈ os.looksAt ops, posts b t (a.eval (.tmp t)) w) → S i = false → blk b S w →
      Region.wanted os (yielded ops a.tmps) = true ∧ os.wp P a w (fun a' w' => a' = a ∧ ExtB b w w' ∧ w'.heap.size = w.heap.size ∧ Below w0.heap.size w0 w' ∧ blk b (fun j => if j = i then true else S j) w') Q)
    (hops : ∀ (i : Nat) (o : Oper), ops[i]? = some o → i ≠ ia → i ∉ iss → OpOk P ops Q posts w0 o)
    (hend : ∀ (b : Nat) (f : Tmp → Value) (w : World), Below w0.heap.size w0 w → w0.heap.size ≤ b → b < w.heap.size → (∀ t ∈ ds, posts b t (f t) w) → blk b (fun _ => true) w → Q .normal (puts f a0 ds) w) :
    (Code.region id ops true).wp P Q a0 w0 := by
  refine wp_region_eachM iss (Keeps ops a0 posts) blk hm hB hn (fun b t v w w' hE h => ⟨hst b t v w w' hE h.1, h.2⟩) hsb hsc (fun b hb t ht => ⟨h0 b hb t ht, fun _ => rfl⟩) hia hda hga hal (fun b w => ⟨hpa b w, fun hn => absurd hda (hn ia oa hia)⟩) hba hallis hiss his
    (fun i hi os ho b S a w q1 q2 q3 q4 q5 q6 => hstore i hi os ho b S a w q1 q2 q3 (fun t ht => (q4 t ht).1) q5 q6) (fun i o hi h1 h2 => (hops i o hi h1 h2).keeps hi) ?_
  intro b a w hb h1 h2 hb1 hb2 hp hblk
  rw [puts_of hdsb h1 (h2.trans hn.symm) hp]
  exact hend b _ w hb hb1 hb2 (fun t _ => (hp t).1) hblk
end
section
open Go.RowKit
set_option maxHeartbeats 2000000
theorem opwp_move {o : Oper} {a : Act} {w : World} {K : Act → World → Prop} {Q : Exit → Act → World → Prop} {x : Tmp} {v : Value} (hop : o.op = .move (.tmp x)) (hx : a.eval (.tmp x) = v) (hK : K (a.put o.dst (v)) w) : o.wp Tryz.prog a w K Q := by
  refine opwp_val (w' := w) (v) ?_ hK
  simp only [execOp, hop, hx]
  rfl
theorem opwp_assign {o : Oper} {a : Act} {w : World} {K : Act → World → Prop} {Q : Exit → Act → World → Prop} {x : Tmp} {v : Value} (hop : o.op = .assign (.tmp x)) (hx : a.eval (.tmp x) = v) (hK : K (a.put o.dst (v)) w) : o.wp Tryz.prog a w K Q := by
  refine opwp_val (w' := w) (v) ?_ hK
  simp only [execOp, hop, hx]
  rfl
theorem opwp_ext {o : Oper} {a : Act} {w : World} {K : Act → World → Prop} {Q : Exit → Act → World → Prop} {x : Tmp} {k : Nat} {u v : Value} (r : Value) (hop : o.op = .extract (.tmp x) k) (hx : a.eval (.tmp x) = .tuple #[u, v]) (hr : #[u, v][k]? = some r) (hK : K (a.put o.dst (r)) w) : o.wp Tryz.prog a w K Q := by
  refine opwp_val (w' := w) (r) ?_ hK
  simp only [execOp, hop, hx]
  simp [hr, Instr.extract]
theorem opwp_nc {o : Oper} {a : Act} {w : World} {K : Act → World → Prop} {Q : Exit → Act → World → Prop} {x : Tmp} {p : Addr} (hop : o.op = .nilCheck (.tmp x)) (hx : a.eval (.tmp x) = .pointer (some p)) (hK : K (a.put o.dst (.pointer (some p))) w) : o.wp Tryz.prog a w K Q := by
  refine opwp_val (w' := w) (.pointer (some p)) ?_ hK
  simp only [execOp, hop, hx]
  go_simp
theorem opwp_faR0 {o : Oper} {a : Act} {w : World} {K : Act → World → Prop} {Q : Exit → Act → World → Prop} {x : Tmp} {b off : Nat} (hop : o.op = .fieldAddr 60 (.tmp x) 0) (hx : a.eval (.tmp x) = .pointer (some ⟨b, off, none⟩)) (hK : K (a.put o.dst (.pointer (some ⟨b, off, none⟩))) w) : o.wp Tryz.prog a w K Q := by
  refine opwp_val (w' := w) (.pointer (some ⟨b, off, none⟩)) ?_ hK
  simp only [execOp, hop, hx]
  go_simp
theorem opwp_faR1 {o : Oper} {a : Act} {w : World} {K : Act → World → Prop} {Q : Exit → Act → World → Prop} {x : Tmp} {b off : Nat} (hop : o.op = .fieldAddr 60 (.tmp x) 1) (hx : a.eval (.tmp x) = .pointer (some ⟨b, off, none⟩)) (hK : K (a.put o.dst (.pointer (some ⟨b, off + 1, none⟩))) w) : o.wp Tryz.prog a w K Q := by
  refine opwp_val (w' := w) (.pointer (some ⟨b, off + 1, none⟩)) ?_ hK
  simp only [execOp, hop, hx]
  go_simp
theorem opwp_faR2 {o : Oper} {a : Act} {w : World} {K : Act → World → Prop} {Q : Exit → Act → World → Prop} {x : Tmp} {b off : Nat} (hop : o.op = .fieldAddr 60 (.tmp x) 2) (hx : a.eval (.tmp x) = .pointer (some ⟨b, off, none⟩)) (hK : K (a.put o.dst (.pointer (some ⟨b, off + 7, none⟩))) w) : o.wp Tryz.prog a w K Q := by
  refine opwp_val (w' := w) (.pointer (some ⟨b, off + 7, none⟩)) ?_ hK
  simp only [execOp, hop, hx]
  go_simp
theorem opwp_faK0 {o : Oper} {a : Act} {w : World} {K : Act → World → Prop} {Q : Exit → Act → World → Prop} {x : Tmp} {b off : Nat} (hop : o.op = .fieldAddr 43 (.tmp x) 0) (hx : a.eval (.tmp x) = .pointer (some ⟨b, off, none⟩)) (hK : K (a.put o.dst (.pointer (some ⟨b, off, none⟩))) w) : o.wp Tryz.prog a w K Q := by
  refine opwp_val (w' := w) (.pointer (some ⟨b, off, none⟩)) ?_ hK
  simp only [execOp, hop, hx]
  go_simp
theorem opwp_faK2 {o : Oper} {a : Act} {w : World} {K : Act → World → Prop} {Q : Exit → Act → World → Prop} {x : Tmp} {b off : Nat} (hop : o.op = .fieldAddr 43 (.tmp x) 2) (hx : a.eval (.tmp x) = .pointer (some ⟨b, off, none⟩)) (hK : K (a.put o.dst (.pointer (some ⟨b, off + 2, none⟩))) w) : o.wp Tryz.prog a w K Q := by
  refine opwp_val (w' := w) (.pointer (some ⟨b, off + 2, none⟩)) ?_ hK
  simp only [execOp, hop, hx]
  go_simp
theorem opwp_faK3 {o : Oper} {a : Act} {w : World} {K : Act → World → Prop} {Q : Exit → Act → World → Prop} {x : Tmp} {b off : Nat} (hop : o.op = .fieldAddr 43 (.tmp x) 3) (hx : a.eval (.tmp x) = .pointer (some ⟨b, off, none⟩)) (hK : K (a.put o.dst (.pointer (some ⟨b, off + 3, none⟩))) w) : o.wp Tryz.prog a w K Q := by
  refine opwp_val (w' := w) (.pointer (some ⟨b, off + 3, none⟩)) ?_ hK
  simp only [execOp, hop, hx]
  go_simp
theorem opwp_faK4 {o : Oper} {a : Act} {w : World} {K : Act → World → Prop} {Q : Exit → Act → World → Prop} {x : Tmp} {b off : Nat} (hop : o.op = .fieldAddr 43 (.tmp x) 4) (hx : a.eval (.tmp x) = .pointer (some ⟨b, off, none⟩)) (hK : K (a.put o.dst (.pointer (some ⟨b, off + 4, none⟩))) w) : o.wp Tryz.prog a w K Q := by
  refine opwp_val (w' := w) (.pointer (some ⟨b, off + 4, none⟩)) ?_ hK
  simp only [execOp, hop, hx]
  go_simp
theorem opwp_faK5 {o : Oper} {a : Act} {w : World} {K : Act → World → Prop} {Q : Exit → Act → World → Prop} {x : Tmp} {b off : Nat} (hop : o.op = .fieldAddr 43 (.tmp x) 5) (hx : a.eval (.tmp x) = .pointer (some ⟨b, off, none⟩)) (hK : K (a.put o.dst (.pointer (some ⟨b, off + 5, none⟩))) w) : o.wp Tryz.prog a w K Q := by
  refine opwp_val (w' := w) (.pointer (some ⟨b, off + 5, none⟩)) ?_ hK
  simp only [execOp, hop, hx]
  go_simp
theorem opwp_faN4 {o : Oper} {a : Act} {w : World} {K : Act → World → Prop} {Q : Exit → Act → World → Prop} {x : Tmp} {b off : Nat} (hop : o.op = .fieldAddr 27 (.tmp x) 4) (hx : a.eval (.tmp x) = .pointer (some ⟨b, off, none⟩)) (hK : K (a.put o.dst (.pointer (some ⟨b, off + 4, none⟩))) w) : o.wp Tryz.prog a w K Q := by
  refine opwp_val (w' := w) (.pointer (some ⟨b, off + 4, none⟩)) ?_ hK
  simp only [execOp, hop, hx]
  go_simp
theorem opwp_faN5 {o : Oper} {a : Act} {w : World} {K : Act → World → Prop} {Q : Exit → Act → World → Prop} {x : Tmp} {b off : Nat} (hop : o.op = .fieldAddr 27 (.tmp x) 5) (hx : a.eval (.tmp x) = .pointer (some ⟨b, off, none⟩)) (hK : K (a.put o.dst (.pointer (some ⟨b, off + 5, none⟩))) w) : o.wp Tryz.prog a w K Q := by
  refine opwp_val (w' := w) (.pointer (some ⟨b, off + 5, none⟩)) ?_ hK
  simp only [execOp, hop, hx]
  go_simp
theorem opwp_ldI {o : Oper} {a : Act} {w : World} {K : Act → World → Prop} {Q : Exit → Act → World → Prop} {x : Tmp} {p : Addr} {v : Value} (hop : o.op = .load 3 (.tmp x)) (hx : a.eval (.tmp x) = .pointer (some p)) (h : w.cell? p = some v) (hK : K (a.put o.dst (v)) w) : o.wp Tryz.prog a w K Q := by
  refine opwp_val (w' := w) (v) ?_ hK
  simp only [execOp, hop, hx]
  go_simp
theorem opwp_ldJ {o : Oper} {a : Act} {w : World} {K : Act → World → Prop} {Q : Exit → Act → World → Prop} {x : Tmp} {p : Addr} {v : Value} (hop : o.op = .load 2 (.tmp x)) (hx : a.eval (.tmp x) = .pointer (some p)) (h : w.cell? p = some v) (hK : K (a.put o.dst (v)) w) : o.wp Tryz.prog a w K Q := by
  refine opwp_val (w' := w) (v) ?_ hK
  simp only [execOp, hop, hx]
  go_simp
theorem opwp_ldU {o : Oper} {a : Act} {w : World} {K : Act → World → Prop} {Q : Exit → Act → World → Prop} {x : Tmp} {p : Addr} {v : Value} (hop : o.op = .load 23 (.tmp x)) (hx : a.eval (.tmp x) = .pointer (some p)) (h : w.cell? p = some v) (hK : K (a.put o.dst (v)) w) : o.wp Tryz.prog a w K Q := by
  refine opwp_val (w' := w) (v) ?_ hK
  simp only [execOp, hop, hx]
  go_simp
theorem opwp_ldS {o : Oper} {a : Act} {w : World} {K : Act → World → Prop} {Q : Exit → Act → World → Prop} {x : Tmp} {p : Addr} {v : Value} (hop : o.op = .load 9 (.tmp x)) (hx : a.eval (.tmp x) = .pointer (some p)) (h : w.cell? p = some v) (hK : K (a.put o.dst (v)) w) : o.wp Tryz.prog a w K Q := by
  refine opwp_val (w' := w) (v) ?_ hK
  simp only [execOp, hop, hx]
  go_simp
theorem opwp_ldL {o : Oper} {a : Act} {w : World} {K : Act → World → Prop} {Q : Exit → Act → World → Prop} {x : Tmp} {p : Addr} {v : Value} (hop : o.op = .load 25 (.tmp x)) (hx : a.eval (.tmp x) = .pointer (some p)) (h : w.cell? p = some v) (hK : K (a.put o.dst (v)) w) : o.wp Tryz.prog a w K Q := by
  refine opwp_val (w' := w) (v) ?_ hK
  simp only [execOp, hop, hx]
  go_simp
theorem opwp_ldT {o : Oper} {a : Act} {w : World} {K : Act → World → Prop} {Q : Exit → Act → World → Prop} {x : Tmp} {p : Addr} {v : Value} (hop : o.op = .load 24 (.tmp x)) (hx : a.eval (.tmp x) = .pointer (some p)) (h : w.cell? p = some v) (hK : K (a.put o.dst (v)) w) : o.wp Tryz.prog a w K Q := by
  refine opwp_val (w' := w) (v) ?_ hK
  simp only [execOp, hop, hx]
  go_simp
theorem opwp_ldP {o : Oper} {a : Act} {w : World} {K : Act → World → Prop} {Q : Exit → Act → World → Prop} {x : Tmp} {p : Addr} {v : Value} (hop : o.op = .load 58 (.tmp x)) (hx : a.eval (.tmp x) = .pointer (some p)) (h : w.cell? p = some v) (hK : K (a.put o.dst (v)) w) : o.wp Tryz.prog a w K Q := by
  refine opwp_val (w' := w) (v) ?_ hK
  simp only [execOp, hop, hx]
  go_simp
end
end Go.Proofs.YtccmhhmdenfecaaGreatDoor
