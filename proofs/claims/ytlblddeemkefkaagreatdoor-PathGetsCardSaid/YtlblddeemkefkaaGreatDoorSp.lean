/- Regions that draw their order, behind them the frame as it was with the region's slots set. Over any program. -/
import Derived.Test.YtlblddeemkefkaaGreatDoorSg
namespace Go.Proofs.YtlblddeemkefkaaGreatDoor
set_option linter.unusedVariables false
set_option linter.unusedSimpArgs false
set_option linter.unusedSectionVars false
section
open Go.RowKit
variable {P : Program} {ops : Array Oper} {Q : Exit → Act → World → Prop}
def puts (f : Tmp → Value) (a : Act) (ds : List Tmp) : Act := ds.foldl (fun a d => a.put (some d) (f d)) a
theorem put_size (a : Act) (d : Tmp) (v : Value) : (a.put (some d) v).tmps.size = a.tmps.size := by simp [Act.put]
theorem puts_size (f : Tmp → Value) : ∀ (ds : List Tmp) (a : Act), (puts f a ds).tmps.size = a.tmps.size
  | [], _ => rfl
  | d :: ds, a => by
    show (puts f (a.put (some d) (f d)) ds).tmps.size = _
    rw [puts_size f ds, put_size]
theorem puts_defers (f : Tmp → Value) : ∀ (ds : List Tmp) (a : Act), (puts f a ds).defers = a.defers
  | [], _ => rfl
  | d :: ds, a => by
    show (puts f (a.put (some d) (f d)) ds).defers = _
    rw [puts_defers f ds]
    rfl
theorem puts_eval (f : Tmp → Value) : ∀ (ds : List Tmp) (a : Act) (t : Tmp), t < a.tmps.size → (puts f a ds).eval (.tmp t) = if t ∈ ds then f t else a.eval (.tmp t)
  | [], _, _, _ => by simp [puts]
  | d :: ds, a, t, h => by
    show (puts f (a.put (some d) (f d)) ds).eval (.tmp t) = _
    rw [puts_eval f ds _ t (by rw [put_size]; exact h)]
    by_cases hm : t ∈ ds
    · rw [if_pos hm, if_pos (List.mem_cons_of_mem _ hm)]
    · rw [if_neg hm]
      by_cases hd : t = d
      · subst hd
        rw [if_pos (by simp), eval_put_self h]
      · rw [if_neg (by simp [hd, hm])]
        exact Act.eval_put fun d' h1 h2 => by cases h1; cases h2; exact hd rfl
theorem act_eq {a a' : Act} (h1 : a.tmps.size = a'.tmps.size) (h2 : a.defers = a'.defers) (h : ∀ t, t < a.tmps.size → a.eval (.tmp t) = a'.eval (.tmp t)) : a = a' := by
  obtain ⟨T, D⟩ := a
  obtain ⟨T', D'⟩ := a'
  dsimp only at h1 h2 h
  subst h2
  congr 1
  apply Array.ext h1
  intro i hi hi'
  have := h i hi
  simpa [Act.eval, Array.getD, hi, hi'] using this
/-- All slots that the operations set. -/
def dsB (ops : Array Oper) (ds : List Tmp) : Bool := ops.toList.all fun o => match o.dst with | none => true | some d => ds.contains d
theorem dsB_spec {ds : List Tmp} (h : dsB ops ds = true) {j : Nat} {o : Oper} {d : Tmp} (hj : ops[j]? = some o) (hd : o.dst = some d) : d ∈ ds := by
  have hm : o ∈ ops.toList := by rw [← Array.getElem?_toList] at hj; exact List.mem_of_getElem? hj
  have := List.all_eq_true.1 h o hm
  simp only [hd] at this
  simpa using this
def Keeps (ops : Array Oper) (a0 : Act) (posts : Posts) : Posts := fun b t v w => posts b t v w ∧ ((∀ (j : Nat) (o : Oper), ops[j]? = some o → o.dst ≠ some t) → v = a0.eval (.tmp t))
theorem OpOk.keeps {posts : Posts} {w0 : World} {a0 : Act} {i : Nat} {o : Oper} (hi : ops[i]? = some o) (h : OpOk P ops Q posts w0 o) : OpOk P ops Q (Keeps ops a0 posts) w0 o := by
  intro B a w hB hb hk
  obtain ⟨h1, h2⟩ := h B a w hB hb fun b hb t ht => (hk b hb t ht).1
  refine ⟨h1, Oper.wp_mono ?_ h2⟩
  rintro a' w' ⟨q1, v, q2, q3⟩
  exact ⟨q1, v, q2, fun d hd b hb hbb => ⟨q3 d hd b hb hbb, fun hn => absurd hd (hn i o hi)⟩⟩
theorem puts_of {a a0 : Act} {w : World} {posts : Posts} {b : Nat} {ds : List Tmp} (hds : dsB ops ds = true) (h1 : a.defers = a0.defers) (h2 : a.tmps.size = a0.tmps.size) (h : ∀ t, Keeps ops a0 posts b t (a.eval (.tmp t)) w) : a = puts (fun d => a.eval (.tmp d)) a0 ds := by
  refine act_eq (by rw [puts_size]; exact h2) (by rw [puts_defers]; exact h1) fun t ht => ?_
  rw [puts_eval _ _ _ _ (by rw [← h2]; exact ht)]
  by_cases hm : t ∈ ds
  · rw [if_pos hm]
  · rw [if_neg hm]
    exact (h t).2 fun j o hj hd => hm (dsB_spec hds hj hd)
theorem wp_region_eachP {id n : Nat} {a0 : Act} {w0 : World} (ds : List Tmp) (posts : Posts) (hm : P.follows .mixedOrders = true) (hB : eachB ops n = true) (hn : a0.tmps.size = n) (hds : dsB ops ds = true)
    (hst : ∀ (b : Nat) (t : Tmp) (v : Value) (w w' : World), ExtB b w w' → posts b t v w → posts b t v w')
    (h0 : ∀ b, w0.heap.size ≤ b → ∀ t, (∀ (j : Nat) (o : Oper), ops[j]? = some o → o.dst ≠ some t) → posts b t (a0.eval (.tmp t)) w0)
    (hops : ∀ (i : Nat) (o : Oper), ops[i]? = some o → OpOk P ops Q posts w0 o)
    (hend : ∀ (f : Tmp → Value) (w : World), Below w0.heap.size w0 w → (∀ b, w.heap.size ≤ b → ∀ t ∈ ds, posts b t (f t) w) → Q .normal (puts f a0 ds) w) :
    (Code.region id ops true).wp P Q a0 w0 := by
  refine wp_region_each (Keeps ops a0 posts) hm hB hn (fun b t v w w' hE h => ⟨hst b t v w w' hE h.1, h.2⟩) (fun b hb t ht => ⟨h0 b hb t ht, fun _ => rfl⟩) (fun i o hi => (hops i o hi).keeps hi) ?_
  intro a w hb h1 h2 hp
  rw [puts_of hds h1 (h2.trans hn.symm) (hp _ (Nat.le_refl _))]
  exact hend _ w hb fun b hb t _ => (hp b hb t).1
theorem wp_region_each1P {id n ia is_ : Nat} {a0 : Act} {w0 : World} {oa os : Oper} {p : Tmp} {ob : Obj} (ds : List Tmp) (posts : Posts) (blk : Nat → Bool → World → Prop) (hm : P.follows .mixedOrders = true) (hB : eachB ops n = true) (hn : a0.tmps.size = n) (hdsb : dsB ops ds = true)
    (hst : ∀ (b : Nat) (t : Tmp) (v : Value) (w w' : World), ExtB b w w' → posts b t v w → posts b t v w')
    (hsb : ∀ (b : Nat) (s : Bool) (w w' : World), b < w.heap.size → Below w.heap.size w w' → blk b s w → blk b s w')
    (h0 : ∀ b, w0.heap.size ≤ b → ∀ t, (∀ (j : Nat) (o : Oper), ops[j]? = some o → o.dst ≠ some t) → posts b t (a0.eval (.tmp t)) w0)
    (hia : ops[ia]? = some oa) (hda : oa.dst = some p) (hga : oa.guard = none) (hal : ∀ (a : Act) (w : World) (K : Act → World → Prop), K (a.put oa.dst (.pointer (some ⟨w.heap.size, 0, none⟩))) (w.alloc ob) → oa.wp P a w K Q)
    (hpa : ∀ b w, posts b p (.pointer (some ⟨b, 0, none⟩)) w) (hba : ∀ (w : World), blk w.heap.size false (w.alloc ob))
    (his : ops[is_]? = some os) (hds : os.dst = none)
    (hstore : ∀ (b : Nat) (a : Act) (w : World), Below w0.heap.size w0 w → w0.heap.size ≤ b → b < w.heap.size → (∀ t ∈ os.looksAt ops, posts b t (a.eval (.tmp t)) w) → blk b false w →
      Region.wanted os (yielded ops a.tmps) = true ∧ os.wp P a w (fun a' w' => a' = a ∧ ExtB b w w' ∧ w'.heap.size = w.heap.size ∧ Below w0.heap.size w0 w' ∧ blk b true w') Q)
    (hafter : os.after.any fun e => Region.binds .any e && e.on == ia)
    (hops : ∀ (i : Nat) (o : Oper), ops[i]? = some o → i ≠ ia → i ≠ is_ → OpOk P ops Q posts w0 o)
    (hend : ∀ (b : Nat) (f : Tmp → Value) (w : World), Below w0.heap.size w0 w → w0.heap.size ≤ b → b < w.heap.size → (∀ t ∈ ds, posts b t (f t) w) → blk b true w → Q .normal (puts f a0 ds) w) :
    (Code.region id ops true).wp P Q a0 w0 := by
  refine wp_region_each1 (Keeps ops a0 posts) blk hm hB hn (fun b t v w w' hE h => ⟨hst b t v w w' hE h.1, h.2⟩) hsb (fun b hb t ht => ⟨h0 b hb t ht, fun _ => rfl⟩) hia hda hga hal (fun b w => ⟨hpa b w, fun hn => absurd hda (hn ia oa hia)⟩) hba his hds
    (fun b a w q1 q2 q3 q4 q5 => hstore b a w q1 q2 q3 (fun t ht => (q4 t ht).1) q5) hafter (fun i o hi h1 h2 => (hops i o hi h1 h2).keeps hi) ?_
  intro b a w hb h1 h2 hb1 hb2 hp hblk
  rw [puts_of hdsb h1 (h2.trans hn.symm) hp]
  exact hend b _ w hb hb1 hb2 (fun t _ => (hp t).1) hblk
/-- As OpOk; or it is not wanted, and its slot holds nothing of use. -/
def OpOk2 (P : Program) (ops : Array Oper) (Q : Exit → Act → World → Prop) (posts : Posts) (w0 : World) (o : Oper) : Prop :=
  ∀ (B : Nat → Prop) (a : Act) (w : World), (∃ b, B b) → Below w0.heap.size w0 w → (∀ b, B b → ∀ t ∈ o.looksAt ops, posts b t (a.eval (.tmp t)) w) →
    (Region.wanted o (yielded ops a.tmps) = true ∧
      o.wp P a w (fun a' w' => Below w.heap.size w w' ∧ ∃ v, a' = a.put o.dst v ∧ ∀ d, o.dst = some d → ∀ b, B b → (b < w.heap.size ∨ w'.heap.size ≤ b) → posts b d v w') Q) ∨
    (Region.wanted o (yielded ops a.tmps) = false ∧ ∀ d, o.dst = some d → ∀ b, B b → posts b d undef w)
theorem OpOk.two {posts : Posts} {w0 : World} {o : Oper} (h : OpOk P ops Q posts w0 o) : OpOk2 P ops Q posts w0 o := fun B a w hB hb hk => .inl (h B a w hB hb hk)
theorem OpOk2.keeps {posts : Posts} {w0 : World} {a0 : Act} {i : Nat} {o : Oper} (hi : ops[i]? = some o) (h : OpOk2 P ops Q posts w0 o) : OpOk2 P ops Q (Keeps ops a0 posts) w0 o := by
  intro B a w hB hb hk
  rcases h B a w hB hb fun b hb t ht => (hk b hb t ht).1 with ⟨h1, h2⟩ | ⟨h1, h2⟩
  · refine .inl ⟨h1, Oper.wp_mono ?_ h2⟩
    rintro a' w' ⟨q1, v, q2, q3⟩
    exact ⟨q1, v, q2, fun d hd b hb hbb => ⟨q3 d hd b hb hbb, fun hn => absurd hd (hn i o hi)⟩⟩
  · exact .inr ⟨h1, fun d hd b hb => ⟨h2 d hd b hb, fun hn => absurd hd (hn i o hi)⟩⟩
theorem wp_region_each2 {id n : Nat} {a0 : Act} {w0 : World} (posts : Posts) (hm : P.follows .mixedOrders = true) (hB : eachB ops n = true) (hn : a0.tmps.size = n)
    (hst : ∀ (b : Nat) (t : Tmp) (v : Value) (w w' : World), ExtB b w w' → posts b t v w → posts b t v w')
    (h0 : ∀ b, w0.heap.size ≤ b → ∀ t, (∀ (j : Nat) (o : Oper), ops[j]? = some o → o.dst ≠ some t) → posts b t (a0.eval (.tmp t)) w0)
    (hops : ∀ (i : Nat) (o : Oper), ops[i]? = some o → OpOk2 P ops Q posts w0 o)
    (hend : ∀ (a : Act) (w : World), Below w0.heap.size w0 w → a.defers = a0.defers → a.tmps.size = n → (∀ b, w.heap.size ≤ b → ∀ t, posts b t (a.eval (.tmp t)) w) → Q .normal a w) :
    (Code.region id ops true).wp P Q a0 w0 := by
  refine wp_region_any hm ?_
  have hd0 : Below w0.heap.size w0 { w0 with drawn := w0.drawn + 1 } := (Below.refl _ w0).drew
  refine wpAny_inv (fun listed a w => Below w0.heap.size w0 w ∧ a.defers = a0.defers ∧ a.tmps.size = n ∧ listed.size = ops.size ∧ ∀ b, w.heap.size ≤ b → SlotsB ops posts b listed a w) ?_ ?_ ops.size _ a0 _ (List.range ops.size) (by simp) (fun j hj _ => List.mem_range.2 hj) ⟨hd0, rfl, hn, by simp, fun b hb t ht => ?_⟩
  · rintro listed a w ⟨h1, h2, h3, hs, h4⟩ hr
    exact hend a w h1 h2 h3 fun b hb t => h4 b hb t fun j o hj hdj => eachB_done hB hs hr j (Array.getElem?_eq_some_iff.1 hj).1
  · rintro listed a w i ⟨h1, h2, h3, hs, h4⟩ hi
    obtain ⟨hun, o, ho, hall⟩ := mem_ready.1 hi
    unfold wpOp
    rcases hops i o ho (fun b => w.heap.size ≤ b) a w ⟨_, Nat.le_refl _⟩ h1 (fun b hb t ht => h4 b hb t fun j oj hj hdj => eachB_looks hB ho ht hj hdj hall) with ⟨hw, hwp⟩ | ⟨hw, hv⟩
    · simp only [ho, hw, if_true]
      refine .inl (Oper.wp_mono ?_ hwp)
      rintro a' w' ⟨hb', v, rfl, hv⟩
      have hsz := hb'.size
      refine ⟨h1.trans (hb'.mono h1.size), ?_, ?_, by simpa using hs, fun b hb => SlotsB.set hst hB ho h3 (h4 b (by omega)) (ExtB.below hb') fun d hd => hv d hd b (by omega) (.inr hb)⟩
      · rw [← h2]; cases o.dst <;> rfl
      · rw [← h3]; cases o.dst <;> simp [Act.put]
    · simp only [ho, hw, Bool.false_eq_true, if_false]
      refine ⟨h1, ?_, ?_, by simpa using hs, fun b hb => SlotsB.set hst hB ho h3 (h4 b hb) (ExtB.below (Below.refl _ _)) fun d hd => hv d hd b hb⟩
      · rw [← h2]; cases o.dst <;> rfl
      · rw [← h3]; cases o.dst <;> simp [Act.put]
  · refine hst b t _ _ _ (ExtB.below (w := w0) ((Below.refl _ w0).drew)) (h0 b hb t fun j o hj hd => ?_)
    have := ht j o hj hd
    have hjl := (Array.getElem?_eq_some_iff.1 hj).1
    simp [hjl] at this
theorem wp_region_each2P {id n : Nat} {a0 : Act} {w0 : World} (ds : List Tmp) (posts : Posts) (hm : P.follows .mixedOrders = true) (hB : eachB ops n = true) (hn : a0.tmps.size = n) (hds : dsB ops ds = true)
    (hst : ∀ (b : Nat) (t : Tmp) (v : Value) (w w' : World), ExtB b w w' → posts b t v w → posts b t v w')
    (h0 : ∀ b, w0.heap.size ≤ b → ∀ t, (∀ (j : Nat) (o : Oper), ops[j]? = some o → o.dst ≠ some t) → posts b t (a0.eval (.tmp t)) w0)
    (hops : ∀ (i : Nat) (o : Oper), ops[i]? = some o → OpOk2 P ops Q posts w0 o)
    (hend : ∀ (f : Tmp → Value) (w : World), Below w0.heap.size w0 w → (∀ b, w.heap.size ≤ b → ∀ t ∈ ds, posts b t (f t) w) → Q .normal (puts f a0 ds) w) :
    (Code.region id ops true).wp P Q a0 w0 := by
  refine wp_region_each2 (Keeps ops a0 posts) hm hB hn (fun b t v w w' hE h => ⟨hst b t v w w' hE h.1, h.2⟩) (fun b hb t ht => ⟨h0 b hb t ht, fun _ => rfl⟩) (fun i o hi => (hops i o hi).keeps hi) ?_
  intro a w hb h1 h2 hp
  rw [puts_of hds h1 (h2.trans hn.symm) (hp _ (Nat.le_refl _))]
  exact hend _ w hb fun b hb t _ => (hp b hb t).1
theorem unwanted_of {o : Oper} {a : Act} {g : Nat} {want c : Bool} {t : Tmp} (hg : o.guard = some (g, want)) (ht : (ops[g]?).bind (·.dst) = some t) (hv : a.eval (.tmp t) = .bool c) (hc : c ≠ want) : Region.wanted o (yielded ops a.tmps) = false := by
  have e : a.tmps[t]? = some (.bool c) := by
    have h : a.tmps.getD t undef = .bool c := hv
    rw [Array.getD_eq_getD_getElem?] at h
    cases hx : a.tmps[t]? with
    | none => rw [hx] at h; cases h
    | some v => rw [hx] at h; exact congrArg some h
  unfold Region.wanted
  rw [hg]
  simp [yielded, ht, e, hc]
theorem unwanted_undef {o : Oper} {a : Act} {g : Nat} {want : Bool} {t : Tmp} (hg : o.guard = some (g, want)) (ht : (ops[g]?).bind (·.dst) = some t) (hv : a.eval (.tmp t) = undef) : Region.wanted o (yielded ops a.tmps) = false := by
  unfold Region.wanted
  rw [hg]
  have h : a.tmps.getD t undef = undef := hv
  rw [Array.getD_eq_getD_getElem?] at h
  cases hx : a.tmps[t]? with
  | none => simp [yielded, ht, hx]
  | some v =>
    rw [hx] at h
    have : v = undef := h
    subst this
    simp [yielded, ht, hx, undef]
section
set_option maxHeartbeats 2000000
theorem opwp_neqE {o : Oper} {a : Act} {w : World} {K : Act → World → Prop} {Q : Exit → Act → World → Prop} {x : Tmp} {m n : Int} (hop : o.op = .binOp .neq 24 (.tmp x) (.const (.int .i64 n)) 24) (hx : a.eval (.tmp x) = .int .i64 m) (hK : K (a.put o.dst (.bool (m != n))) w) : o.wp Tryz.prog a w K Q := by
  refine opwp_val (w' := w) (.bool (m != n)) ?_ hK
  simp only [execOp, hop]
  have e : a.eval (.const (.int .i64 n)) = .int .i64 n := rfl
  rw [hx, e]
  go_simp
theorem opwp_eqI {o : Oper} {a : Act} {w : World} {K : Act → World → Prop} {Q : Exit → Act → World → Prop} {x : Tmp} {m n : Int} (hop : o.op = .binOp .eql 3 (.tmp x) (.const (.int .i64 n)) 3) (hx : a.eval (.tmp x) = .int .i64 m) (hK : K (a.put o.dst (.bool (m == n))) w) : o.wp Tryz.prog a w K Q := by
  refine opwp_val (w' := w) (.bool (m == n)) ?_ hK
  simp only [execOp, hop]
  have e : a.eval (.const (.int .i64 n)) = .int .i64 n := rfl
  rw [hx, e]
  go_simp
theorem opwp_neqI {o : Oper} {a : Act} {w : World} {K : Act → World → Prop} {Q : Exit → Act → World → Prop} {x : Tmp} {m n : Int} (hop : o.op = .binOp .neq 3 (.tmp x) (.const (.int .i64 n)) 3) (hx : a.eval (.tmp x) = .int .i64 m) (hK : K (a.put o.dst (.bool (m != n))) w) : o.wp Tryz.prog a w K Q := by
  refine opwp_val (w' := w) (.bool (m != n)) ?_ hK
  simp only [execOp, hop]
  have e : a.eval (.const (.int .i64 n)) = .int .i64 n := rfl
  rw [hx, e]
  go_simp
theorem opwp_fa0 {o : Oper} {a : Act} {w : World} {K : Act → World → Prop} {Q : Exit → Act → World → Prop} {x : Tmp} {b : Nat} (hop : o.op = .fieldAddr 38 (.tmp x) 0) (hx : a.eval (.tmp x) = .pointer (some ⟨b, 0, none⟩)) (hK : K (a.put o.dst (.pointer (some ⟨b, 0, none⟩))) w) : o.wp Tryz.prog a w K Q := by
  refine opwp_val (w' := w) (.pointer (some ⟨b, 0, none⟩)) ?_ hK
  simp only [execOp, hop, hx]
  go_simp
theorem opwp_fa4 {o : Oper} {a : Act} {w : World} {K : Act → World → Prop} {Q : Exit → Act → World → Prop} {x : Tmp} {b : Nat} (hop : o.op = .fieldAddr 38 (.tmp x) 4) (hx : a.eval (.tmp x) = .pointer (some ⟨b, 0, none⟩)) (hK : K (a.put o.dst (.pointer (some ⟨b, 4, none⟩))) w) : o.wp Tryz.prog a w K Q := by
  refine opwp_val (w' := w) (.pointer (some ⟨b, 4, none⟩)) ?_ hK
  simp only [execOp, hop, hx]
  go_simp
theorem opwp_fa5 {o : Oper} {a : Act} {w : World} {K : Act → World → Prop} {Q : Exit → Act → World → Prop} {x : Tmp} {b : Nat} (hop : o.op = .fieldAddr 38 (.tmp x) 5) (hx : a.eval (.tmp x) = .pointer (some ⟨b, 0, none⟩)) (hK : K (a.put o.dst (.pointer (some ⟨b, 5, none⟩))) w) : o.wp Tryz.prog a w K Q := by
  refine opwp_val (w' := w) (.pointer (some ⟨b, 5, none⟩)) ?_ hK
  simp only [execOp, hop, hx]
  go_simp
theorem opwp_ldI {o : Oper} {a : Act} {w : World} {K : Act → World → Prop} {Q : Exit → Act → World → Prop} {x : Tmp} {p : Addr} {v : Value} (hop : o.op = .load 3 (.tmp x)) (hx : a.eval (.tmp x) = .pointer (some p)) (h : w.cell? p = some v) (hK : K (a.put o.dst v) w) : o.wp Tryz.prog a w K Q := by
  refine opwp_val (w' := w) v ?_ hK
  simp only [execOp, hop, hx]
  go_simp
theorem opwp_ldS {o : Oper} {a : Act} {w : World} {K : Act → World → Prop} {Q : Exit → Act → World → Prop} {x : Tmp} {p : Addr} {v : Value} (hop : o.op = .load 9 (.tmp x)) (hx : a.eval (.tmp x) = .pointer (some p)) (h : w.cell? p = some v) (hK : K (a.put o.dst v) w) : o.wp Tryz.prog a w K Q := by
  refine opwp_val (w' := w) v ?_ hK
  simp only [execOp, hop, hx]
  go_simp
theorem opwp_ldT {o : Oper} {a : Act} {w : World} {K : Act → World → Prop} {Q : Exit → Act → World → Prop} {x : Tmp} {p : Addr} {v : Value} (hop : o.op = .load 35 (.tmp x)) (hx : a.eval (.tmp x) = .pointer (some p)) (h : w.cell? p = some v) (hK : K (a.put o.dst v) w) : o.wp Tryz.prog a w K Q := by
  refine opwp_val (w' := w) v ?_ hK
  simp only [execOp, hop, hx]
  go_simp
theorem opwp_ldL {o : Oper} {a : Act} {w : World} {K : Act → World → Prop} {Q : Exit → Act → World → Prop} {x : Tmp} {p : Addr} {v : Value} (hop : o.op = .load 36 (.tmp x)) (hx : a.eval (.tmp x) = .pointer (some p)) (h : w.cell? p = some v) (hK : K (a.put o.dst v) w) : o.wp Tryz.prog a w K Q := by
  refine opwp_val (w' := w) v ?_ hK
  simp only [execOp, hop, hx]
  go_simp
theorem opwp_iaN {o : Oper} {a : Act} {w : World} {K : Act → World → Prop} {Q : Exit → Act → World → Prop} {x y : Tmp} {g off n c k : Nat} (hop : o.op = .indexAddr 36 (.tmp x) (.tmp y)) (hx : a.eval (.tmp x) = .slice (some ⟨g, off, none⟩) n c) (hy : a.eval (.tmp y) = .int .i64 (k : Nat)) (hk : k < n) (hK : K (a.put o.dst (.pointer (some ⟨g, off + k * 6, none⟩))) w) : o.wp Tryz.prog a w K Q := by
  refine opwp_val (w' := w) (.pointer (some ⟨g, off + k * 6, none⟩)) ?_ hK
  have h1 : (k : Int) < (n : Int) := by omega
  simp only [execOp, hop, hx, hy]
  go_simp
theorem opwp_iaT {o : Oper} {a : Act} {w : World} {K : Act → World → Prop} {Q : Exit → Act → World → Prop} {x y : Tmp} {g off n c k : Nat} (hop : o.op = .indexAddr 35 (.tmp x) (.tmp y)) (hx : a.eval (.tmp x) = .slice (some ⟨g, off, none⟩) n c) (hy : a.eval (.tmp y) = .int .i64 (k : Nat)) (hk : k < n) (hK : K (a.put o.dst (.pointer (some ⟨g, off + k, none⟩))) w) : o.wp Tryz.prog a w K Q := by
  refine opwp_val (w' := w) (.pointer (some ⟨g, off + k, none⟩)) ?_ hK
  have h1 : (k : Int) < (n : Int) := by omega
  simp only [execOp, hop, hx, hy]
  go_simp
theorem opwp_iaS {o : Oper} {a : Act} {w : World} {K : Act → World → Prop} {Q : Exit → Act → World → Prop} {x y : Tmp} {g off n c k : Nat} (hop : o.op = .indexAddr 22 (.tmp x) (.tmp y)) (hx : a.eval (.tmp x) = .slice (some ⟨g, off, none⟩) n c) (hy : a.eval (.tmp y) = .int .i64 (k : Nat)) (hk : k < n) (hK : K (a.put o.dst (.pointer (some ⟨g, off + k * 3, none⟩))) w) : o.wp Tryz.prog a w K Q := by
  refine opwp_val (w' := w) (.pointer (some ⟨g, off + k * 3, none⟩)) ?_ hK
  have h1 : (k : Int) < (n : Int) := by omega
  simp only [execOp, hop, hx, hy]
  go_simp
theorem opwp_ldN {o : Oper} {a : Act} {w : World} {K : Act → World → Prop} {Q : Exit → Act → World → Prop} {x : Tmp} {b off : Nat} {v0 v1 v2 v3 v4 v5 : Value} (hop : o.op = .load 38 (.tmp x)) (hx : a.eval (.tmp x) = .pointer (some ⟨b, off, none⟩))
    (z0 : w.cell? ⟨b, off, none⟩ = some v0) (z1 : w.cell? ⟨b, off + 1, none⟩ = some v1) (z2 : w.cell? ⟨b, off + 2, none⟩ = some v2) (z3 : w.cell? ⟨b, off + 3, none⟩ = some v3) (z4 : w.cell? ⟨b, off + 4, none⟩ = some v4) (z5 : w.cell? ⟨b, off + 5, none⟩ = some v5)
    (hK : K (a.put o.dst (.agg #[v0, v1, v2, v3, v4, v5])) w) : o.wp Tryz.prog a w K Q := by
  refine opwp_val (w' := w) (.agg #[v0, v1, v2, v3, v4, v5]) ?_ hK
  simp only [execOp, hop, hx]
  go_simp
theorem opwp_ldP {o : Oper} {a : Act} {w : World} {K : Act → World → Prop} {Q : Exit → Act → World → Prop} {x : Tmp} {b off : Nat} {v0 v1 v2 : Value} (hop : o.op = .load 50 (.tmp x)) (hx : a.eval (.tmp x) = .pointer (some ⟨b, off, none⟩))
    (z0 : w.cell? ⟨b, off, none⟩ = some v0) (z1 : w.cell? ⟨b, off + 1, none⟩ = some v1) (z2 : w.cell? ⟨b, off + 2, none⟩ = some v2)
    (hK : K (a.put o.dst (.agg #[v0, v1, v2])) w) : o.wp Tryz.prog a w K Q := by
  refine opwp_val (w' := w) (.agg #[v0, v1, v2]) ?_ hK
  simp only [execOp, hop, hx]
  go_simp
theorem opwp_build0 {o : Oper} {a : Act} {w : World} {K : Act → World → Prop} {Q : Exit → Act → World → Prop} (hop : o.op = .build 38 #[]) (hK : K (a.put o.dst (.agg #[.int .i64 0, .int .i64 0, .int .u64 0, .string ⟨#[]⟩, .slice none 0 0, .slice none 0 0])) w) : o.wp Tryz.prog a w K Q := by
  refine opwp_val (w' := w) (.agg #[.int .i64 0, .int .i64 0, .int .u64 0, .string ⟨#[]⟩, .slice none 0 0, .slice none 0 0]) ?_ hK
  simp only [execOp, hop]
  go_simp
theorem opwp_len {o : Oper} {a : Act} {w : World} {K : Act → World → Prop} {Q : Exit → Act → World → Prop} {x : Tmp} {A : Option Addr} {n c : Nat} (hop : o.op = .call { callee := .builtin .len, args := #[.tmp x], argTypes := #[36] }) (hx : a.eval (.tmp x) = .slice A n c) (hK : K (a.put o.dst (.int .i64 n)) w) : o.wp Tryz.prog a w K Q := by
  refine opwp_val (w' := w) (.int .i64 n) ?_ hK
  simp only [execOp, hop, resolve, invoke, builtin, hx, List.map_toArray, List.map_cons, List.map_nil]
  go_simp
theorem opwp_pickC {o : Oper} {a : Act} {w : World} {K : Act → World → Prop} {Q : Exit → Act → World → Prop} {x y : Tmp} {u : Value} (hop : o.op = .pick (.tmp x) (.tmp y) (.const u)) (hx : a.eval (.tmp x) = .bool false) (hK : K (a.put o.dst u) w) : o.wp Tryz.prog a w K Q := by
  refine opwp_val (w' := w) u ?_ hK
  have e : a.eval (.const u) = u := rfl
  simp only [execOp, hop, hx, e]
  go_simp
theorem opwp_pickD {o : Oper} {a : Act} {w : World} {K : Act → World → Prop} {Q : Exit → Act → World → Prop} {x y : Tmp} {u : Value} (hop : o.op = .pick (.tmp x) (.const u) (.tmp y)) (hx : a.eval (.tmp x) = .bool true) (hK : K (a.put o.dst u) w) : o.wp Tryz.prog a w K Q := by
  refine opwp_val (w' := w) u ?_ hK
  have e : a.eval (.const u) = u := rfl
  simp only [execOp, hop, hx, e]
  go_simp
end
end
end Go.Proofs.YtlblddeemkefkaaGreatDoor
