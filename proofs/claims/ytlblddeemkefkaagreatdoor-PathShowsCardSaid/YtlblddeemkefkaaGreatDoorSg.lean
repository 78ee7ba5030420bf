/- A region that draws its order, each operation by itself: what each slot holds is said once, whatever the order. Over any program. Single operations of regions: what accordionlaw08.works does in an open order. -/
import Derived.ProofKit
import Derived.Handy
import Derived.Deep.RegionLaw
import Derived.Test.YtlblddeemkefkaaGreatDoorSd
namespace Go.Proofs.YtlblddeemkefkaaGreatDoor
set_option linter.unusedVariables false
set_option linter.unusedSimpArgs false
set_option linter.unusedSectionVars false
section
section
open Go.RowKit
variable {P : Program} {ops : Array Oper} {md : Region.Mode} {Q : Exit → Act → World → Prop}
theorem wpAny_inv (I : Array Bool → Act → World → Prop) (hend : ∀ listed a w, I listed a w → Region.ready md ops listed = [] → Q .normal a w)
    (hstep : ∀ listed a w i, I listed a w → i ∈ Region.ready md ops listed → wpOp P ops Q i (I (listed.setIfInBounds i true)) a w) :
    ∀ (fuel : Nat) (listed : Array Bool) (a : Act) (w : World) (l : List Nat), l.length ≤ fuel → (∀ j, j < ops.size → listed.getD j true = false → j ∈ l) → I listed a w → wpAny P md ops Q fuel listed a w := by
  have hlt : ∀ (listed : Array Bool) j, j ∈ Region.ready md ops listed → j < ops.size ∧ listed.getD j true = false := by
    intro listed j hj
    obtain ⟨h0, o, ho, -⟩ := mem_ready.1 hj
    exact ⟨(Array.getElem?_eq_some_iff.1 ho).1, h0⟩
  intro fuel
  induction fuel with
  | zero =>
    intro listed a w l hl hm hI
    have hr : Region.ready md ops listed = [] := by
      rw [List.eq_nil_iff_forall_not_mem]
      intro j hj
      obtain ⟨h1, h2⟩ := hlt listed j hj
      have := hm j h1 h2
      have hl0 : l = [] := List.eq_nil_of_length_eq_zero (by omega)
      rw [hl0] at this
      cases this
    exact ⟨hr, hend _ _ _ hI hr⟩
  | succ fuel ih =>
    intro listed a w l hl hm hI
    refine ⟨fun hr => hend _ _ _ hI hr, fun i hi => ?_⟩
    obtain ⟨h1, h2⟩ := hlt listed i hi
    have hil := hm i h1 h2
    refine wpOp_mono (fun a' w' hI' => ih (listed.setIfInBounds i true) a' w' (l.erase i) ?_ ?_ hI') (hstep listed a w i hI hi)
    · rw [List.length_erase_of_mem hil]
      omega
    · intro j hj hun
      have hji : i ≠ j := by
        rintro rfl
        have hls : i < listed.size := by
          rcases Nat.lt_or_ge i listed.size with h | h
          · exact h
          · simp [Array.getElem?_eq_none h] at h2
        simp [hls] at hun
      rw [getD_set_ne true hji] at hun
      exact (List.mem_erase_of_ne (Ne.symm hji)).2 (hm j hj hun)
/-- What a slot holds; the blocks that it leans on are not b. -/
abbrev Posts := Nat → Tmp → Value → World → Prop
/-- Blocks stand but b. -/
def ExtB (b : Nat) (w w' : World) : Prop := w.heap.size ≤ w'.heap.size ∧ ∀ k, k < w.heap.size → k ≠ b → w'.heap[k]? = w.heap[k]?
theorem ExtB.below {b : Nat} {w w' : World} (h : Below w.heap.size w w') : ExtB b w w' := ⟨h.size, fun k hk _ => h.block k hk⟩
/-- One operation of the region: it is wanted, and gives its slot's value. -/
def OpOk (P : Program) (ops : Array Oper) (Q : Exit → Act → World → Prop) (posts : Posts) (w0 : World) (o : Oper) : Prop :=
  ∀ (B : Nat → Prop) (a : Act) (w : World), (∃ b, B b) → Below w0.heap.size w0 w → (∀ b, B b → ∀ t ∈ o.looksAt ops, posts b t (a.eval (.tmp t)) w) →
    Region.wanted o (yielded ops a.tmps) = true ∧
    o.wp P a w (fun a' w' => Below w.heap.size w w' ∧ ∃ v, a' = a.put o.dst v ∧ ∀ d, o.dst = some d → ∀ b, B b → (b < w.heap.size ∨ w'.heap.size ≤ b) → posts b d v w') Q
/-- The region's shape, a matter of counting: slots differ, lie in the frame; what an operation looks at lies ahead of it. -/
def eachB (ops : Array Oper) (n : Nat) : Bool :=
  (List.range ops.size).all fun i => match ops[i]? with
    | none => true
    | some o => (o.after.all fun e => !Region.binds .any e || decide (e.on < i))
      && (match o.dst with
        | none => true
        | some d => decide (d < n) && (List.range ops.size).all fun j => j == i || ((ops[j]?).bind (·.dst)) != some d)
      && (o.looksAt ops).all fun t => (List.range ops.size).all fun j => ((ops[j]?).bind (·.dst)) != some t || o.after.any fun e => Region.binds .any e && e.on == j
theorem eachB_dst {n i : Nat} {o : Oper} {d : Tmp} (h : eachB ops n = true) (hi : ops[i]? = some o) (hd : o.dst = some d) : d < n ∧ ∀ j oj, ops[j]? = some oj → oj.dst = some d → j = i := by
  have hlt := (Array.getElem?_eq_some_iff.1 hi).1
  have h1 := List.all_eq_true.1 h i (List.mem_range.2 hlt)
  simp only [hi, hd, Bool.and_eq_true, decide_eq_true_eq] at h1
  refine ⟨h1.1.2.1, fun j oj hj hdj => ?_⟩
  have h2 := List.all_eq_true.1 h1.1.2.2 j (List.mem_range.2 (Array.getElem?_eq_some_iff.1 hj).1)
  simp only [hj, Option.bind_some, hdj, Bool.or_eq_true, beq_iff_eq, bne_self_eq_false, Bool.false_eq_true, or_false] at h2
  exact h2
theorem eachB_looks {n i j : Nat} {o oj : Oper} {t : Tmp} {listed : Array Bool} (h : eachB ops n = true) (hi : ops[i]? = some o) (ht : t ∈ o.looksAt ops) (hj : ops[j]? = some oj) (hdj : oj.dst = some t)
    (hall : ∀ e ∈ o.after, Region.binds .any e = true → listed.getD e.on false = true) : listed.getD j false = true := by
  have hlt := (Array.getElem?_eq_some_iff.1 hi).1
  have h1 := List.all_eq_true.1 h i (List.mem_range.2 hlt)
  simp only [hi, Bool.and_eq_true] at h1
  have h2 := List.all_eq_true.1 h1.2 t ht
  have h3 := List.all_eq_true.1 h2 j (List.mem_range.2 (Array.getElem?_eq_some_iff.1 hj).1)
  simp only [hj, Option.bind_some, hdj, bne_self_eq_false, Bool.false_or] at h3
  obtain ⟨e, he, hb⟩ := Array.any_eq_true'.1 h3
  simp only [Bool.and_eq_true, beq_iff_eq] at hb
  have := hall e he hb.1
  rwa [hb.2] at this
theorem eachB_done {n : Nat} {listed : Array Bool} (h : eachB ops n = true) (hs : listed.size = ops.size) (hr : Region.ready .any ops listed = []) : ∀ j, j < ops.size → listed.getD j false = true := by
  intro j
  induction j using Nat.strongRecOn with
  | _ j ih =>
    intro hj
    cases hc : listed.getD j false with
    | true => rfl
    | false =>
      exfalso
      have h1 := List.all_eq_true.1 h j (List.mem_range.2 hj)
      obtain ⟨o, ho⟩ : ∃ o, ops[j]? = some o := ⟨_, Array.getElem?_eq_getElem hj⟩
      simp only [ho, Bool.and_eq_true] at h1
      have hmem : j ∈ Region.ready .any ops listed := by
        refine mem_ready.2 ⟨?_, o, ho, fun e he hb => ?_⟩
        · have hjl : j < listed.size := by omega
          simpa [hjl] using hc
        · have h2 := Array.all_eq_true_iff_forall_mem.1 h1.1.1 e he
          simp only [hb, Bool.not_true, Bool.false_or, decide_eq_true_eq] at h2
          exact ih e.on h2 (by omega)
      rw [hr] at hmem
      cases hmem
/-- The slots that are done hold what they shall. -/
def SlotsB (ops : Array Oper) (posts : Posts) (b : Nat) (listed : Array Bool) (a : Act) (w : World) : Prop :=
  ∀ t, (∀ (j : Nat) (o : Oper), ops[j]? = some o → o.dst = some t → listed.getD j false = true) → posts b t (a.eval (.tmp t)) w
theorem eval_put_self {a : Act} {d : Tmp} {v : Value} (h : d < a.tmps.size) : (a.put (some d) v).eval (.tmp d) = v := by
  simp [Act.put, Act.eval, Array.getD_eq_getD_getElem?, Array.getElem?_setIfInBounds_self_of_lt h]
theorem SlotsB.set {n i b : Nat} {posts : Posts} {o : Oper} {listed : Array Bool} {a : Act} {w w' : World} {v : Value} (hst : ∀ (b : Nat) (t : Tmp) (v : Value) (w w' : World), ExtB b w w' → posts b t v w → posts b t v w') (hB : eachB ops n = true) (hi : ops[i]? = some o) (hz : a.tmps.size = n)
    (h : SlotsB ops posts b listed a w) (hE : ExtB b w w') (hv : ∀ d, o.dst = some d → posts b d v w') : SlotsB ops posts b (listed.setIfInBounds i true) (a.put o.dst v) w' := by
  intro t ht
  by_cases hd : o.dst = some t
  · have hlt := (eachB_dst hB hi hd).1
    rw [hd, eval_put_self (show t < a.tmps.size by rw [hz]; exact hlt)]
    exact hv t hd
  · have e : (a.put o.dst v).eval (.tmp t) = a.eval (.tmp t) := Act.eval_put fun d hd' e => hd (by cases e; exact hd')
    rw [e]
    refine hst b t _ _ _ hE (h t fun j oj hj hdj => ?_)
    have := ht j oj hj hdj
    have hji : i ≠ j := by
      rintro rfl
      rw [hi] at hj
      cases hj
      exact hd hdj
    rwa [getD_set_ne false hji] at this
/-- A region of which each operation gives its slot's value (no store). -/
theorem wp_region_each {id n : Nat} {a0 : Act} {w0 : World} (posts : Posts) (hm : P.follows .mixedOrders = true) (hB : eachB ops n = true) (hn : a0.tmps.size = n)
    (hst : ∀ (b : Nat) (t : Tmp) (v : Value) (w w' : World), ExtB b w w' → posts b t v w → posts b t v w')
    (h0 : ∀ b, w0.heap.size ≤ b → ∀ t, (∀ (j : Nat) (o : Oper), ops[j]? = some o → o.dst ≠ some t) → posts b t (a0.eval (.tmp t)) w0)
    (hops : ∀ (i : Nat) (o : Oper), ops[i]? = some o → OpOk P ops Q posts w0 o)
    (hend : ∀ (a : Act) (w : World), Below w0.heap.size w0 w → a.defers = a0.defers → a.tmps.size = n → (∀ b, w.heap.size ≤ b → ∀ t, posts b t (a.eval (.tmp t)) w) → Q .normal a w) :
    (Code.region id ops true).wp P Q a0 w0 := by
  refine wp_region_any hm ?_
  have hd0 : Below w0.heap.size w0 { w0 with drawn := w0.drawn + 1 } := (Below.refl _ w0).drew
  refine wpAny_inv (fun listed a w => Below w0.heap.size w0 w ∧ a.defers = a0.defers ∧ a.tmps.size = n ∧ listed.size = ops.size ∧ ∀ b, w.heap.size ≤ b → SlotsB ops posts b listed a w) ?_ ?_ ops.size _ a0 _ (List.range ops.size) (by simp) (fun j hj _ => List.mem_range.2 hj) ⟨hd0, rfl, hn, by simp, fun b hb t ht => ?_⟩
  · rintro listed a w ⟨h1, h2, h3, hs, h4⟩ hr
    exact hend a w h1 h2 h3 fun b hb t => h4 b hb t fun j o hj hdj => eachB_done hB hs hr j (Array.getElem?_eq_some_iff.1 hj).1
  · rintro listed a w i ⟨h1, h2, h3, hs, h4⟩ hi
    obtain ⟨hun, o, ho, hall⟩ := mem_ready.1 hi
    obtain ⟨hw, hwp⟩ := hops i o ho (fun b => w.heap.size ≤ b) a w ⟨_, Nat.le_refl _⟩ h1 (fun b hb t ht => h4 b hb t fun j oj hj hdj => eachB_looks hB ho ht hj hdj hall)
    unfold wpOp
    simp only [ho, hw, if_true]
    refine .inl (Oper.wp_mono ?_ hwp)
    rintro a' w' ⟨hb', v, rfl, hv⟩
    have hsz := hb'.size
    refine ⟨h1.trans (hb'.mono h1.size), ?_, ?_, by simpa using hs, fun b hb => SlotsB.set hst hB ho h3 (h4 b (by omega)) (ExtB.below hb') fun d hd => hv d hd b (by omega) (.inr hb)⟩
    · rw [← h2]; cases o.dst <;> rfl
    · rw [← h3]; cases o.dst <;> simp [Act.put]
  · refine hst b t _ _ _ (ExtB.below (w := w0) ((Below.refl _ w0).drew)) (h0 b hb t fun j o hj hd => ?_)
    have := ht j o hj hd
    have hjl := (Array.getElem?_eq_some_iff.1 hj).1
    simp [hjl] at this
/-- The same with one block made (operation ia) and written once (operation is_). -/
theorem wp_region_each1 {id n ia is_ : Nat} {a0 : Act} {w0 : World} {oa os : Oper} {p : Tmp} {ob : Obj} (posts : Posts) (blk : Nat → Bool → World → Prop) (hm : P.follows .mixedOrders = true) (hB : eachB ops n = true) (hn : a0.tmps.size = n)
    (hst : ∀ (b : Nat) (t : Tmp) (v : Value) (w w' : World), ExtB b w w' → posts b t v w → posts b t v w')
    (hsb : ∀ (b : Nat) (s : Bool) (w w' : World), b < w.heap.size → Below w.heap.size w w' → blk b s w → blk b s w')
    (h0 : ∀ b, w0.heap.size ≤ b → ∀ t, (∀ (j : Nat) (o : Oper), ops[j]? = some o → o.dst ≠ some t) → posts b t (a0.eval (.tmp t)) w0)
    (hia : ops[ia]? = some oa) (hda : oa.dst = some p) (hga : oa.guard = none) (hal : ∀ (a : Act) (w : World) (K : Act → World → Prop), K (a.put oa.dst (.pointer (some ⟨w.heap.size, 0, none⟩))) (w.alloc ob) → oa.wp P a w K Q)
    (hpa : ∀ b w, posts b p (.pointer (some ⟨b, 0, none⟩)) w) (hba : ∀ (w : World), blk w.heap.size false (w.alloc ob))
    (his : ops[is_]? = some os) (hds : os.dst = none)
    (hstore : ∀ (b : Nat) (a : Act) (w : World), Below w0.heap.size w0 w → w0.heap.size ≤ b → b < w.heap.size → (∀ t ∈ os.looksAt ops, posts b t (a.eval (.tmp t)) w) → blk b false w →
      Region.wanted os (yielded ops a.tmps) = true ∧ os.wp P a w (fun a' w' => a' = a ∧ ExtB b w w' ∧ w'.heap.size = w.heap.size ∧ Below w0.heap.size w0 w' ∧ blk b true w') Q)
    (hafter : os.after.any fun e => Region.binds .any e && e.on == ia)
    (hops : ∀ (i : Nat) (o : Oper), ops[i]? = some o → i ≠ ia → i ≠ is_ → OpOk P ops Q posts w0 o)
    (hend : ∀ (b : Nat) (a : Act) (w : World), Below w0.heap.size w0 w → a.defers = a0.defers → a.tmps.size = n → w0.heap.size ≤ b → b < w.heap.size → (∀ t, posts b t (a.eval (.tmp t)) w) → blk b true w → Q .normal a w) :
    (Code.region id ops true).wp P Q a0 w0 := by
  refine wp_region_any hm ?_
  have hd0 : Below w0.heap.size w0 { w0 with drawn := w0.drawn + 1 } := (Below.refl _ w0).drew
  have hne : ia ≠ is_ := by
    rintro rfl
    rw [hia] at his
    cases his
    rw [hda] at hds
    cases hds
  refine wpAny_inv (fun listed a w => Below w0.heap.size w0 w ∧ a.defers = a0.defers ∧ a.tmps.size = n ∧ listed.size = ops.size ∧
    ((listed.getD ia false = false ∧ listed.getD is_ false = false ∧ ∀ b, w.heap.size ≤ b → SlotsB ops posts b listed a w) ∨
     (listed.getD ia false = true ∧ ∃ b, w0.heap.size ≤ b ∧ b < w.heap.size ∧ SlotsB ops posts b listed a w ∧ blk b (listed.getD is_ false) w))) ?_ ?_ ops.size _ a0 _ (List.range ops.size) (by simp) (fun j hj _ => List.mem_range.2 hj) ⟨hd0, rfl, hn, by simp, .inl ⟨?_, ?_, fun b hb t ht => ?_⟩⟩
  · rintro listed a w ⟨h1, h2, h3, hs, h4⟩ hr
    have hall := eachB_done hB hs hr
    have hla := hall ia (Array.getElem?_eq_some_iff.1 hia).1
    have hls := hall is_ (Array.getElem?_eq_some_iff.1 his).1
    rcases h4 with ⟨k, -, -⟩ | ⟨-, b, k1, k2, k3, k4⟩
    · rw [hla] at k; cases k
    · rw [hls] at k4
      exact hend b a w h1 h2 h3 k1 k2 (fun t => k3 t fun j o hj hdj => hall j (Array.getElem?_eq_some_iff.1 hj).1) k4
  · rintro listed a w i ⟨h1, h2, h3, hs, h4⟩ hi
    obtain ⟨hun, o, ho, hall⟩ := mem_ready.1 hi
    have hil := (Array.getElem?_eq_some_iff.1 ho).1
    have hun2 : listed.getD i false = false := by
      have : i < listed.size := by omega
      simpa [this] using hun
    have hself : (listed.setIfInBounds i true).getD i false = true := by
      have : i < listed.size := by omega
      simp [this]
    unfold wpOp
    by_cases hcase : i = ia
    · subst hcase
      rw [hia] at ho
      cases ho
      have hw : Region.wanted oa (yielded ops a.tmps) = true := by simp [Region.wanted, hga]
      simp only [hia, hw, if_true]
      refine .inl (hal a w _ ?_)
      rcases h4 with ⟨-, k2, k3⟩ | ⟨k, -⟩
      · have hbw : Below w.heap.size w (w.alloc ob) := (Below.refl _ w).alloc (Nat.le_refl _) _
        refine ⟨h1.trans (hbw.mono h1.size), ?_, ?_, by simpa using hs, .inr ⟨hself, w.heap.size, h1.size, by simp, ?_, ?_⟩⟩
        · rw [← h2, hda]; rfl
        · rw [← h3, hda]; simp [Act.put]
        · exact SlotsB.set hst hB hia h3 (k3 _ (Nat.le_refl _)) (ExtB.below hbw) fun d hd => by rw [hda] at hd; cases hd; exact hpa _ _
        · rw [getD_set_ne false hne, k2]; exact hba w
      · rw [hun2] at k; cases k
    by_cases hcase2 : i = is_
    · subst hcase2
      rw [his] at ho
      cases ho
      rcases h4 with ⟨k, -, -⟩ | ⟨k, b, k1, k2, k3, k4⟩
      · exfalso
        obtain ⟨e, he, hb⟩ := Array.any_eq_true'.1 hafter
        simp only [Bool.and_eq_true, beq_iff_eq] at hb
        have := hall e he hb.1
        rw [hb.2, k] at this
        cases this
      · rw [hun2] at k4
        obtain ⟨hw, hwp⟩ := hstore b a w h1 k1 k2 (fun t ht => k3 t fun j oj hj hdj => eachB_looks hB his ht hj hdj hall) k4
        simp only [his, hw, if_true]
        refine .inl (Oper.wp_mono ?_ hwp)
        rintro a' w' ⟨rfl, q1, q2, q3, q4⟩
        refine ⟨q3, h2, h3, by simpa using hs, .inr ⟨by rw [getD_set_ne false (Ne.symm hne)]; exact k, b, k1, by omega, ?_, by rw [hself]; exact q4⟩⟩
        intro t ht
        refine hst b t _ _ _ q1 (k3 t fun j oj hj hdj => ?_)
        have := ht j oj hj hdj
        have hji : i ≠ j := by
          rintro rfl
          rw [his] at hj
          cases hj
          rw [hds] at hdj
          cases hdj
        rwa [getD_set_ne false hji] at this
    have hok := hops i o ho hcase hcase2
    rcases h4 with ⟨k1, k2, k3⟩ | ⟨k, b, k1, k2, k3, k4⟩
    · obtain ⟨hw, hwp⟩ := hok (fun b => w.heap.size ≤ b) a w ⟨_, Nat.le_refl _⟩ h1 (fun b hb t ht => k3 b hb t fun j oj hj hdj => eachB_looks hB ho ht hj hdj hall)
      simp only [ho, hw, if_true]
      refine .inl (Oper.wp_mono ?_ hwp)
      rintro a' w' ⟨hb', v, rfl, hv⟩
      have hsz := hb'.size
      refine ⟨h1.trans (hb'.mono h1.size), ?_, ?_, by simpa using hs, .inl ⟨by rw [getD_set_ne false hcase]; exact k1, by rw [getD_set_ne false hcase2]; exact k2, fun b hb => SlotsB.set hst hB ho h3 (k3 b (by omega)) (ExtB.below hb') fun d hd => hv d hd b (by omega) (.inr hb)⟩⟩
      · rw [← h2]; cases o.dst <;> rfl
      · rw [← h3]; cases o.dst <;> simp [Act.put]
    · obtain ⟨hw, hwp⟩ := hok (fun x => x = b) a w ⟨_, rfl⟩ h1 (fun x hx t ht => by subst hx; exact k3 t fun j oj hj hdj => eachB_looks hB ho ht hj hdj hall)
      simp only [ho, hw, if_true]
      refine .inl (Oper.wp_mono ?_ hwp)
      rintro a' w' ⟨hb', v, rfl, hv⟩
      have hsz := hb'.size
      refine ⟨h1.trans (hb'.mono h1.size), ?_, ?_, by simpa using hs, .inr ⟨by rw [getD_set_ne false hcase]; exact k, b, k1, by omega, SlotsB.set hst hB ho h3 k3 (ExtB.below hb') fun d hd => hv d hd b rfl (.inl k2), by rw [getD_set_ne false hcase2]; exact hsb b _ _ _ k2 hb' k4⟩⟩
      · rw [← h2]; cases o.dst <;> rfl
      · rw [← h3]; cases o.dst <;> simp [Act.put]
  · have := (Array.getElem?_eq_some_iff.1 hia).1
    simp [this]
  · have := (Array.getElem?_eq_some_iff.1 his).1
    simp [this]
  · refine hst b t _ _ _ (ExtB.below (w := w0) ((Below.refl _ w0).drew)) (h0 b hb t fun j o hj hd => ?_)
    have := ht j o hj hd
    have hjl := (Array.getElem?_eq_some_iff.1 hj).1
    simp [hjl] at this
end
end
section
section
open Go.RowKit
theorem opwp_call {P : Program} {o : Oper} {a : Act} {w : World} {K : Act → World → Prop} {Q : Exit → Act → World → Prop} {f : FuncId} {args : Array Value} (R : Value → World → Prop)
    (hx : (execOp a.eval o).run P w = .ok (.enter f args) w) (hc : Calls P f args w fun e w' => ∃ v, e = .returned v ∧ R v w') (hK : ∀ v w', R v w' → K (a.put o.dst v) w') : o.wp P a w K Q := by
  unfold Oper.wp
  rw [hx, Oper.upon_enter]
  refine hc.mono ?_
  rintro e w' ⟨v, rfl, h⟩
  exact hK v w' h
theorem exec_call {P : Program} {o : Oper} {a : Act} {w : World} {f : FuncId} {fn : Func} {xs : List Operand} {ts : Array TypeId} (vs : List Value) (hf : P.funcs[f]? = some fn) (hn : (fn.name == "runtime.NumGoroutine") = false) (hb : fn.body.isNone = false)
    (hop : o.op = .call { callee := .value (.func f), args := xs.toArray, argTypes := ts }) (hv : xs.map a.eval = vs) :
    (execOp a.eval o).run P w = .ok (.enter f vs.toArray) w := by
  subst hv
  have hn2 : ¬ fn.name = "runtime.NumGoroutine" := by simpa using hn
  have hb2 : ¬ fn.body = none := by intro e; rw [e] at hb; cases hb
  simp [execOp, hop, resolve, invoke, Act.eval, Sem.run_bind, Sem.run_pure, Result.andThen_ok, Deferred.ofValue, callFunc, hf, hn2, hb2]
theorem opwp_val {P : Program} {o : Oper} {a : Act} {w w' : World} {K : Act → World → Prop} {Q : Exit → Act → World → Prop} (v : Value)
    (hx : (execOp a.eval o).run P w = .ok (.value v) w') (hK : K (a.put o.dst v) w') : o.wp P a w K Q := by
  unfold Oper.wp
  rw [hx]
  exact hK
theorem wanted_of {ops : Array Oper} {o : Oper} {a : Act} {g : Nat} {want : Bool} {t : Tmp} (hg : o.guard = some (g, want)) (ht : (ops[g]?).bind (·.dst) = some t) (hv : a.eval (.tmp t) = .bool want) : Region.wanted o (yielded ops a.tmps) = true := by
  have e : a.tmps[t]? = some (.bool want) := by
    have h : a.tmps.getD t undef = .bool want := hv
    rw [Array.getD_eq_getD_getElem?] at h
    cases hx : a.tmps[t]? with
    | none => rw [hx] at h; cases h
    | some v => rw [hx] at h; exact congrArg some h
  unfold Region.wanted
  rw [hg]
  simp [yielded, ht, e]
set_option maxHeartbeats 2000000 in
theorem opwp_load6 {o : Oper} {a : Act} {w : World} {K : Act → World → Prop} {Q : Exit → Act → World → Prop} {x : Tmp} {b : Nat} {v0 v1 v2 v3 v4 v5 : Value} (hop : o.op = .load 38 (.tmp x)) (hx : a.eval (.tmp x) = .pointer (some ⟨b, 0, none⟩))
    (h : w.heap[b]? = some (.cells #[v0, v1, v2, v3, v4, v5] 38 (0, 0))) (hK : K (a.put o.dst (.agg #[v0, v1, v2, v3, v4, v5])) w) : o.wp Tryz.prog a w K Q := by
  obtain ⟨z0, z1, z2, z3, z4, z5⟩ := cells6 h
  refine opwp_val (w' := w) (.agg #[v0, v1, v2, v3, v4, v5]) ?_ hK
  simp only [execOp, hop, hx]
  go_simp
set_option maxHeartbeats 2000000 in
theorem opwp_bsN2 {o : Oper} {a : Act} {w : World} {K : Act → World → Prop} {Q : Exit → Act → World → Prop} {x y : Tmp} {nx0 nx1 nx2 : Int} {sx : ByteArray} {Ax : Option Addr} {mx cx : Nat} {Bx : Option Addr} {kx dx : Nat} {ny0 ny1 ny2 : Int} {sy : ByteArray} {Ay : Option Addr} {my cy : Nat} {By : Option Addr} {ky dy : Nat} (hop : o.op = .buildSlice 36 2 #[(0, .tmp x), (1, .tmp y)]) (hx : a.eval (.tmp x) = .agg #[.int .i64 nx0, .int .i64 nx1, .int .u64 nx2, .string sx, .slice Ax mx cx, .slice Bx kx dx]) (hy : a.eval (.tmp y) = .agg #[.int .i64 ny0, .int .i64 ny1, .int .u64 ny2, .string sy, .slice Ay my cy, .slice By ky dy])
    (hK : K (a.put o.dst (.slice (some ⟨w.heap.size, 0, none⟩) 2 2)) (w.alloc (.cells #[.int .i64 nx0, .int .i64 nx1, .int .u64 nx2, .string sx, .slice Ax mx cx, .slice Bx kx dx, .int .i64 ny0, .int .i64 ny1, .int .u64 ny2, .string sy, .slice Ay my cy, .slice By ky dy] 38))) : o.wp Tryz.prog a w K Q := by
  refine opwp_val (w' := w.alloc (.cells #[.int .i64 nx0, .int .i64 nx1, .int .u64 nx2, .string sx, .slice Ax mx cx, .slice Bx kx dx, .int .i64 ny0, .int .i64 ny1, .int .u64 ny2, .string sy, .slice Ay my cy, .slice By ky dy] 38)) (.slice (some ⟨w.heap.size, 0, none⟩) 2 2) ?_ hK
  simp only [execOp, hop, List.map_toArray, List.map_cons, List.map_nil, hx, hy]
  go_simp
set_option maxHeartbeats 2000000 in
theorem opwp_bsS1 {o : Oper} {a : Act} {w : World} {K : Act → World → Prop} {Q : Exit → Act → World → Prop} {x : Tmp} {sx : ByteArray} {nx : Int} {gx : Bool} (hop : o.op = .buildSlice 22 1 #[(0, .tmp x)]) (hx : a.eval (.tmp x) = .agg #[.string sx, .int .i64 nx, .bool gx])
    (hK : K (a.put o.dst (.slice (some ⟨w.heap.size, 0, none⟩) 1 1)) (w.alloc (.cells #[.string sx, .int .i64 nx, .bool gx] 50))) : o.wp Tryz.prog a w K Q := by
  refine opwp_val (w' := w.alloc (.cells #[.string sx, .int .i64 nx, .bool gx] 50)) (.slice (some ⟨w.heap.size, 0, none⟩) 1 1) ?_ hK
  simp only [execOp, hop, List.map_toArray, List.map_cons, List.map_nil, hx]
  go_simp
set_option maxHeartbeats 2000000 in
theorem opwp_bsS2 {o : Oper} {a : Act} {w : World} {K : Act → World → Prop} {Q : Exit → Act → World → Prop} {x y : Tmp} {sx : ByteArray} {nx : Int} {gx : Bool} {sy : ByteArray} {ny : Int} {gy : Bool} (hop : o.op = .buildSlice 22 2 #[(0, .tmp x), (1, .tmp y)]) (hx : a.eval (.tmp x) = .agg #[.string sx, .int .i64 nx, .bool gx]) (hy : a.eval (.tmp y) = .agg #[.string sy, .int .i64 ny, .bool gy])
    (hK : K (a.put o.dst (.slice (some ⟨w.heap.size, 0, none⟩) 2 2)) (w.alloc (.cells #[.string sx, .int .i64 nx, .bool gx, .string sy, .int .i64 ny, .bool gy] 50))) : o.wp Tryz.prog a w K Q := by
  refine opwp_val (w' := w.alloc (.cells #[.string sx, .int .i64 nx, .bool gx, .string sy, .int .i64 ny, .bool gy] 50)) (.slice (some ⟨w.heap.size, 0, none⟩) 2 2) ?_ hK
  simp only [execOp, hop, List.map_toArray, List.map_cons, List.map_nil, hx, hy]
  go_simp
set_option maxHeartbeats 2000000 in
theorem opwp_bsS3 {o : Oper} {a : Act} {w : World} {K : Act → World → Prop} {Q : Exit → Act → World → Prop} {x y z : Tmp} {sx : ByteArray} {nx : Int} {gx : Bool} {sy : ByteArray} {ny : Int} {gy : Bool} {sz : ByteArray} {nz : Int} {gz : Bool} (hop : o.op = .buildSlice 22 3 #[(0, .tmp x), (1, .tmp y), (2, .tmp z)]) (hx : a.eval (.tmp x) = .agg #[.string sx, .int .i64 nx, .bool gx]) (hy : a.eval (.tmp y) = .agg #[.string sy, .int .i64 ny, .bool gy]) (hz : a.eval (.tmp z) = .agg #[.string sz, .int .i64 nz, .bool gz])
    (hK : K (a.put o.dst (.slice (some ⟨w.heap.size, 0, none⟩) 3 3)) (w.alloc (.cells #[.string sx, .int .i64 nx, .bool gx, .string sy, .int .i64 ny, .bool gy, .string sz, .int .i64 nz, .bool gz] 50))) : o.wp Tryz.prog a w K Q := by
  refine opwp_val (w' := w.alloc (.cells #[.string sx, .int .i64 nx, .bool gx, .string sy, .int .i64 ny, .bool gy, .string sz, .int .i64 nz, .bool gz] 50)) (.slice (some ⟨w.heap.size, 0, none⟩) 3 3) ?_ hK
  simp only [execOp, hop, List.map_toArray, List.map_cons, List.map_nil, hx, hy, hz]
  go_simp
set_option maxHeartbeats 2000000 in
theorem opwp_bsT2 {o : Oper} {a : Act} {w : World} {K : Act → World → Prop} {Q : Exit → Act → World → Prop} {u v : ByteArray} (hop : o.op = .buildSlice 35 2 #[(0, .const (.string u)), (1, .const (.string v))])
    (hK : K (a.put o.dst (.slice (some ⟨w.heap.size, 0, none⟩) 2 2)) (w.alloc (.cells #[.string u, .string v] 9))) : o.wp Tryz.prog a w K Q := by
  refine opwp_val (w' := w.alloc (.cells #[.string u, .string v] 9)) (.slice (some ⟨w.heap.size, 0, none⟩) 2 2) ?_ hK
  simp only [execOp, hop, List.map_toArray, List.map_cons, List.map_nil, Act.eval]
  go_simp
set_option maxHeartbeats 2000000 in
theorem opwp_allocN {o : Oper} (hop : o.op = .alloc 38) (a : Act) (w : World) {Q : Exit → Act → World → Prop} (K : Act → World → Prop)
    (hK : K (a.put o.dst (.pointer (some ⟨w.heap.size, 0, none⟩))) (w.alloc (.cells #[.int .i64 0, .int .i64 0, .int .u64 0, .string ⟨#[]⟩, .slice none 0 0, .slice none 0 0] 38))) : o.wp Tryz.prog a w K Q := by
  refine opwp_val (w' := w.alloc (.cells #[.int .i64 0, .int .i64 0, .int .u64 0, .string ⟨#[]⟩, .slice none 0 0, .slice none 0 0] 38)) (.pointer (some ⟨w.heap.size, 0, none⟩)) ?_ hK
  simp only [execOp, hop]
  go_simp
set_option maxHeartbeats 4000000 in
theorem opwp_storeN {o : Oper} {a : Act} {w : World} {K : Act → World → Prop} {Q : Exit → Act → World → Prop} {x y : Tmp} {b : Nat} {z0 z1 z2 z3 z4 z5 : Value} {nx0 nx1 nx2 : Int} {sx : ByteArray} {Ax : Option Addr} {mx cx : Nat} {Bx : Option Addr} {kx dx : Nat} (hop : o.op = .store 38 (.tmp x) (.tmp y)) (hd : o.dst = none) (hx : a.eval (.tmp x) = .pointer (some ⟨b, 0, none⟩)) (hy : a.eval (.tmp y) = .agg #[.int .i64 nx0, .int .i64 nx1, .int .u64 nx2, .string sx, .slice Ax mx cx, .slice Bx kx dx])
    (h : w.heap[b]? = some (.cells #[z0, z1, z2, z3, z4, z5] 38 (0, 0)))
    (hK : ∀ w', w'.heap[b]? = some (.cells #[.int .i64 nx0, .int .i64 nx1, .int .u64 nx2, .string sx, .slice Ax mx cx, .slice Bx kx dx] 38 (0, 0)) → ExtB b w w' → w'.heap.size = w.heap.size → (∀ w0 : World, w0.heap.size ≤ b → Below w0.heap.size w0 w → Below w0.heap.size w0 w') → K a w') : o.wp Tryz.prog a w K Q := by
  obtain ⟨t0, t1, t2, t3, t4, t5⟩ := cells6 h
  have f0 := frozen_of_row _ _ 0 _ _ h
  have f1 := frozen_of_row _ _ 1 _ _ h
  have f2 := frozen_of_row _ _ 2 _ _ h
  have f3 := frozen_of_row _ _ 3 _ _ h
  have f4 := frozen_of_row _ _ 4 _ _ h
  have f5 := frozen_of_row _ _ 5 _ _ h
  unfold Oper.wp
  have e : (execOp a.eval o).run Tryz.prog w = .ok .skip ((((((w.setCell ⟨b, 0, none⟩ (.int .i64 nx0)).setCell ⟨b, 1, none⟩ (.int .i64 nx1)).setCell ⟨b, 2, none⟩ (.int .u64 nx2)).setCell ⟨b, 3, none⟩ (.string sx)).setCell ⟨b, 4, none⟩ (.slice Ax mx cx)).setCell ⟨b, 5, none⟩ (.slice Bx kx dx)) := by
    simp only [execOp, hop, hx, hy]
    go_simp
  rw [e, Oper.upon_skip, hd]
  refine hK _ (row6_set h _ _ _ _ _ _) ⟨by simp, fun k hk hne => (touch6 (Y := b) (w := w) _ _ _ _ _ _).block k hk (by simpa using hne)⟩ (by simp) fun w0 hb hB => below_six hB hb _ _ _ _ _ _
theorem opwp_not {o : Oper} {a : Act} {w : World} {K : Act → World → Prop} {Q : Exit → Act → World → Prop} {x : Tmp} {c : Bool} (hop : o.op = .unOp .not 4 (.tmp x)) (hx : a.eval (.tmp x) = .bool c) (hK : K (a.put o.dst (.bool !c)) w) : o.wp Tryz.prog a w K Q := by
  refine opwp_val (w' := w) (.bool !c) ?_ hK
  simp only [execOp, hop, hx]
  go_simp
theorem opwp_move {o : Oper} {a : Act} {w : World} {K : Act → World → Prop} {Q : Exit → Act → World → Prop} {x : Tmp} {v : Value} (hop : o.op = .move (.tmp x)) (hx : a.eval (.tmp x) = v) (hK : K (a.put o.dst v) w) : o.wp Tryz.prog a w K Q := by
  refine opwp_val (w' := w) v ?_ hK
  simp only [execOp, hop, hx]
  rfl
theorem opwp_assign {o : Oper} {a : Act} {w : World} {K : Act → World → Prop} {Q : Exit → Act → World → Prop} {x : Tmp} {v : Value} (hop : o.op = .assign (.tmp x)) (hx : a.eval (.tmp x) = v) (hK : K (a.put o.dst v) w) : o.wp Tryz.prog a w K Q := by
  refine opwp_val (w' := w) v ?_ hK
  simp only [execOp, hop, hx]
  rfl
theorem opwp_pickF {o : Oper} {a : Act} {w : World} {K : Act → World → Prop} {Q : Exit → Act → World → Prop} {x y : Tmp} {u v : Value} (hop : o.op = .pick (.tmp x) (.const u) (.tmp y)) (hx : a.eval (.tmp x) = .bool false) (hy : a.eval (.tmp y) = v) (hK : K (a.put o.dst v) w) : o.wp Tryz.prog a w K Q := by
  refine opwp_val (w' := w) v ?_ hK
  simp only [execOp, hop, hx, hy]
  go_simp
theorem opwp_pickT {o : Oper} {a : Act} {w : World} {K : Act → World → Prop} {Q : Exit → Act → World → Prop} {x y : Tmp} {u v : Value} (hop : o.op = .pick (.tmp x) (.tmp y) (.const u)) (hx : a.eval (.tmp x) = .bool true) (hy : a.eval (.tmp y) = v) (hK : K (a.put o.dst v) w) : o.wp Tryz.prog a w K Q := by
  refine opwp_val (w' := w) v ?_ hK
  simp only [execOp, hop, hx, hy]
  go_simp
theorem opwp_ext {o : Oper} {a : Act} {w : World} {K : Act → World → Prop} {Q : Exit → Act → World → Prop} {x : Tmp} {k : Nat} {u v : Value} (r : Value) (hop : o.op = .extract (.tmp x) k) (hx : a.eval (.tmp x) = .tuple #[u, v]) (hr : #[u, v][k]? = some r) (hK : K (a.put o.dst r) w) : o.wp Tryz.prog a w K Q := by
  refine opwp_val (w' := w) r ?_ hK
  simp only [execOp, hop, hx]
  simp [hr, Instr.extract]
theorem opwp_eqE {o : Oper} {a : Act} {w : World} {K : Act → World → Prop} {Q : Exit → Act → World → Prop} {x : Tmp} {m n : Int} (hop : o.op = .binOp .eql 24 (.tmp x) (.const (.int .i64 n)) 24) (hx : a.eval (.tmp x) = .int .i64 m) (hK : K (a.put o.dst (.bool (m == n))) w) : o.wp Tryz.prog a w K Q := by
  refine opwp_val (w' := w) (.bool (m == n)) ?_ hK
  simp only [execOp, hop]
  have e : a.eval (.const (.int .i64 n)) = .int .i64 n := rfl
  rw [hx, e]
  go_simp
/-- A value is a node that reads as a tree in blocks of its own, none of them b. -/
def NVp (w : World) (D : DT) (b : Nat) (v : Value) : Prop := ∃ kd nn uu s A m c A' m' c' bs, v = .agg #[.int .i64 kd, .int .i64 nn, .int .u64 uu, .string s, .slice A m c, .slice A' m' c'] ∧ NRep w D [.int .i64 kd, .int .i64 nn, .int .u64 uu, .string s, .slice A m c, .slice A' m' c'] bs ∧ b ∉ bs
theorem NRep.ext {w w' : World} {D : DT} {cs : List Value} {bs : List Nat} {b : Nat} (h : NRep w D cs bs) (hE : ExtB b w w') (hb : b ∉ bs) : NRep w' D cs bs := h.same _ _ _ fun i hi => hE.2 i (h.bd _ _ _ i hi) fun e => hb (e ▸ hi)
theorem NReps.ext {w w' : World} {l : List DT} {cs : List Value} {bs : List Nat} {b : Nat} (h : NReps w l cs bs) (hE : ExtB b w w') (hb : b ∉ bs) : NReps w' l cs bs := h.same _ _ _ fun i hi => hE.2 i (h.bd _ _ _ i hi) fun e => hb (e ▸ hi)
theorem NVp.ext {w w' : World} {D : DT} {b : Nat} {v : Value} (h : NVp w D b v) (hE : ExtB b w w') : NVp w' D b v := by
  obtain ⟨kd, nn, uu, s, A, m, c, A', m', c', bs, e, h1, h2⟩ := h
  exact ⟨kd, nn, uu, s, A, m, c, A', m', c', bs, e, h1.ext hE h2, h2⟩
theorem NVp.all {w : World} {D : DT} {B : Nat → Prop} {v : Value} (hB : ∃ b, B b) (h : ∀ b, B b → NVp w D b v) : ∃ kd nn uu s A m c A' m' c', v = .agg #[.int .i64 kd, .int .i64 nn, .int .u64 uu, .string s, .slice A m c, .slice A' m' c'] ∧ ∀ b, B b → ∃ bs, NRep w D [.int .i64 kd, .int .i64 nn, .int .u64 uu, .string s, .slice A m c, .slice A' m' c'] bs ∧ b ∉ bs := by
  obtain ⟨b0, hb0⟩ := hB
  obtain ⟨kd, nn, uu, s, A, m, c, A', m', c', bs, rfl, -, -⟩ := h b0 hb0
  refine ⟨kd, nn, uu, s, A, m, c, A', m', c', rfl, fun b hb => ?_⟩
  obtain ⟨_, _, _, _, _, _, _, _, _, _, bs, e, h1, h2⟩ := h b hb
  cases e
  exact ⟨bs, h1, h2⟩
/-- A value is a row of nodes in a block of its own. -/
def RVp (w : World) (l : List DT) (n b : Nat) (v : Value) : Prop := ∃ g cs bs, v = .slice (some ⟨g, 0, none⟩) n n ∧ w.heap[g]? = some (.cells cs 38 (0, 0)) ∧ cs.size = n * 6 ∧ NReps w l cs.toList bs ∧ g ≠ b ∧ b ∉ bs
theorem RVp.ext {w w' : World} {l : List DT} {n b : Nat} {v : Value} (h : RVp w l n b v) (hE : ExtB b w w') : RVp w' l n b v := by
  obtain ⟨g, cs, bs, e, h1, h2, h3, h4, h5⟩ := h
  exact ⟨g, cs, bs, e, (hE.2 g (Array.getElem?_eq_some_iff.1 h1).1 h4).trans h1, h2, h3.ext hE h5, h4, h5⟩
theorem own_blk {w : World} {g n sz : Nat} {cs : Array Value} {e : TypeId} (h : w.heap[g]? = some (.cells cs e (0, 0))) (hs : cs.size = n * sz) (hn : n ≤ maxLen) : w.ownsRow 0 e sz (.slice (some ⟨g, 0, none⟩) n n) n cs.toList :=
  ⟨by rw [Array.length_toList, hs], .inr ⟨g, n, cs, rfl, Nat.zero_le _, h, Nat.le_refl _, hn, hs, by rw [List.take_of_length_le (by rw [Array.length_toList, hs]; exact Nat.le_refl _)]⟩⟩
def numD (n : Int) : DT := .mk 3 n 0 [] [] []
def vecD (l : List DT) : DT := .mk 10 0 0 [] [] l
def tabD (ks : List (List UInt8)) (l : List DT) : DT := .mk 17 0 0 [] ks l
theorem num_rep (w : World) (n : Int) : NRep w (numD n) [.int .i64 3, .int .i64 n, .int .u64 0, .string ⟨#[]⟩, .slice none 0 0, .slice none 0 0] [] := by
  unfold numD
  rw [NRep]
  exact ⟨_, _, [], [], rfl, World.ownsRow_nil _ _ _ _, World.ownsRow_nil _ _ _ _, by rw [NReps]; exact ⟨rfl, rfl⟩, by simp [blkL, Value.ownBlock]⟩
theorem num_nvp (w : World) (n : Int) (b : Nat) : NVp w (numD n) b (.agg #[.int .i64 3, .int .i64 n, .int .u64 0, .string ⟨#[]⟩, .slice none 0 0, .slice none 0 0]) := ⟨_, _, _, _, _, _, _, _, _, _, [], rfl, num_rep w n, by simp⟩
theorem NReps.two {w : World} {T T' : DT} {cs cs' : List Value} {bs bs' : List Nat} (h : NRep w T cs bs) (h' : NRep w T' cs' bs') : NReps w [T, T'] (cs ++ cs') (bs ++ bs') := by
  rw [NReps]
  refine ⟨cs, bs, cs', bs', h, ?_, rfl, rfl⟩
  rw [NReps]
  exact ⟨cs', bs', [], [], h', by rw [NReps]; exact ⟨rfl, rfl⟩, by simp, by simp⟩
theorem vec_rep {w : World} {g n : Nat} {cs : Array Value} {l : List DT} {bs : List Nat} (h : w.heap[g]? = some (.cells cs 38 (0, 0))) (hl : l.length = n) (hs : cs.size = n * 6) (hn : n ≤ maxLen) (hk : NReps w l cs.toList bs) :
    NRep w (vecD l) [.int .i64 10, .int .i64 0, .int .u64 0, .string ⟨#[]⟩, .slice none 0 0, .slice (some ⟨g, 0, none⟩) n n] (g :: bs) := by
  subst hl
  unfold vecD
  rw [NRep]
  exact ⟨_, _, cs.toList, bs, rfl, World.ownsRow_nil _ _ _ _, own_blk h hs hn, hk, by simp [blkL, Value.ownBlock]⟩
theorem tab_rep {w : World} {gk g n : Nat} {ks : List (List UInt8)} {cs ck : Array Value} {l : List DT} {bs : List Nat} (h0 : w.heap[gk]? = some (.cells ck 9 (0, 0))) (hk0 : ck.toList = ks.map strV) (hkl : ks.length = n) (h : w.heap[g]? = some (.cells cs 38 (0, 0))) (hl : l.length = n) (hs : cs.size = n * 6) (hn : n ≤ maxLen) (hk : NReps w l cs.toList bs) :
    NRep w (tabD ks l) [.int .i64 17, .int .i64 0, .int .u64 0, .string ⟨#[]⟩, .slice (some ⟨gk, 0, none⟩) n n, .slice (some ⟨g, 0, none⟩) n n] (gk :: g :: bs) := by
  have hck : ck.size = n * 1 := by rw [← Array.length_toList, hk0, List.length_map, hkl, Nat.mul_one]
  have ho := own_blk (sz := 1) h0 hck hn
  rw [hk0] at ho
  subst hl
  unfold tabD
  rw [NRep]
  exact ⟨_, _, cs.toList, bs, rfl, by rw [hkl]; exact ho, own_blk h hs hn, hk, by simp [blkL, Value.ownBlock]⟩
theorem st_bsN2 {o : Oper} {a : Act} {w : World} {K : Act → World → Prop} {Q : Exit → Act → World → Prop} {x y : Tmp} {D1 D2 : DT} (B : Nat → Prop) (hB : ∃ b, B b) (hop : o.op = .buildSlice 36 2 #[(0, .tmp x), (1, .tmp y)]) (hx : ∀ b, B b → NVp w D1 b (a.eval (.tmp x))) (hy : ∀ b, B b → NVp w D2 b (a.eval (.tmp y)))
    (hK : ∀ v w', Below w.heap.size w w' → (∀ b, B b → (b < w.heap.size ∨ w'.heap.size ≤ b) → RVp w' [D1, D2] 2 b v) → K (a.put o.dst v) w') : o.wp Tryz.prog a w K Q := by
  obtain ⟨_, _, _, _, _, _, _, _, _, _, e1, h1⟩ := NVp.all hB hx
  obtain ⟨_, _, _, _, _, _, _, _, _, _, e2, h2⟩ := NVp.all hB hy
  refine opwp_bsN2 hop e1 e2 (hK _ _ ((Below.refl _ _).alloc (Nat.le_refl _) _) fun b hb hbb => ?_)
  obtain ⟨bs1, k1, k2⟩ := h1 b hb
  obtain ⟨bs2, k3, k4⟩ := h2 b hb
  rw [World.size_alloc] at hbb
  exact ⟨w.heap.size, _, bs1 ++ bs2, rfl, heap_alloc_new _ _, rfl, NReps.two (k1.below ((Below.refl _ _).alloc (Nat.le_refl _) _)) (k3.below ((Below.refl _ _).alloc (Nat.le_refl _) _)), by omega, by simp [k2, k4]⟩
theorem st_vec {w : World} {l : List DT} {n : Nat} {v : Value} (B : Nat → Prop) (hB : ∃ b, B b) (hl : l.length = n) (hn : n ≤ maxLen) (hv : ∀ b, B b → RVp w l n b v) :
    Calls Tryz.prog 36 #[v] w fun e w' => ∃ u, e = .returned u ∧ Below w.heap.size w w' ∧ ∀ b, B b → NVp w' (vecD l) b u := by
  obtain ⟨b0, hb0⟩ := hB
  obtain ⟨g, cs, bs, rfl, -⟩ := hv b0 hb0
  refine (vec8_any _ _ _ _).mono ?_
  rintro e w' ⟨rfl, h⟩
  refine ⟨_, rfl, h, fun b hb => ?_⟩
  obtain ⟨g', cs, bs, e, h1, h2, h3, h4, h5⟩ := hv b hb
  cases e
  exact ⟨_, _, _, _, _, _, _, _, _, _, g :: bs, rfl, vec_rep (below_row h1 h) hl h2 hn (h3.below h), by simp [Ne.symm h4, h5]⟩
theorem st_tab {w : World} {ks : List (List UInt8)} {ck : Array Value} {l : List DT} {n : Nat} {u v : Value} (B : Nat → Prop) (hB : ∃ b, B b) (hl : l.length = n) (hkl : ks.length = n) (hck : ck.toList = ks.map strV) (hn : n ≤ maxLen) (hu : ∀ b, B b → ∃ g, u = .slice (some ⟨g, 0, none⟩) n n ∧ g ≠ b ∧ w.heap[g]? = some (.cells ck 9 (0, 0))) (hv : ∀ b, B b → RVp w l n b v) :
    Calls Tryz.prog 34 #[u, v] w fun e w' => ∃ x, e = .returned x ∧ Below w.heap.size w w' ∧ ∀ b, B b → NVp w' (tabD ks l) b x := by
  obtain ⟨b0, hb0⟩ := hB
  obtain ⟨g, cs, bs, rfl, -⟩ := hv b0 hb0
  obtain ⟨gk, rfl, -⟩ := hu b0 hb0
  refine (table8_any _ _ _ _ _ _ _).mono ?_
  rintro e w' ⟨rfl, h⟩
  refine ⟨_, rfl, h, fun b hb => ?_⟩
  obtain ⟨g', cs, bs, e, h1, h2, h3, h4, h5⟩ := hv b hb
  obtain ⟨gk', e', k1, k2⟩ := hu b hb
  cases e
  cases e'
  exact ⟨_, _, _, _, _, _, _, _, _, _, gk :: g :: bs, rfl, tab_rep (below_row k2 h) hck hkl (below_row h1 h) hl h2 hn (h3.below h), by simp [Ne.symm h4, h5, Ne.symm k1]⟩
/-- What Set hands back: a tree of one's own, none of its blocks b, and a number. -/
def SVp (w : World) (D : DT) (x : Int) (b : Nat) (v : Value) : Prop := ∃ u, v = .tuple #[u, .int .i64 x] ∧ NVp w D b u
theorem SVp.ext {w w' : World} {D : DT} {x : Int} {b : Nat} {v : Value} (h : SVp w D x b v) (hE : ExtB b w w') : SVp w' D x b v := by
  obtain ⟨u, e, h⟩ := h
  exact ⟨u, e, h.ext hE⟩
theorem fresh_nvp {b : Nat} {w w' : World} {D : DT} {v : Value} (h : Fresh w.heap.size w' D v) (hb : b < w.heap.size ∨ w'.heap.size ≤ b) : NVp w' D b v := by
  obtain ⟨x0, x1, x2, x3, x4, x5, bs, rfl, h1, -, h3⟩ := h
  have hbd := h1.bd _ _ _
  obtain ⟨kd, n, u, s, A1, m1, c1, A2, m2, c2, rfl, rfl, rfl, rfl, rfl, rfl⟩ := h1.form2
  exact ⟨_, _, _, _, _, _, _, _, _, _, bs, rfl, h1, fun hi => by have := h3 b hi; have := hbd b hi; omega⟩
end
end
end Go.Proofs.YtlblddeemkefkaaGreatDoor
