/- A region that draws its order, with one block made and written once and one append that may write into the room of its own row. Over any program; then appends of paths. -/
import Derived.Test.YtlblddeemkefkaaGreatDoorSq
import Derived.Laws.OwnMore
namespace Go.Proofs.YtlblddeemkefkaaGreatDoor
set_option linter.unusedVariables false
set_option linter.unusedSimpArgs false
set_option linter.unusedSectionVars false
section
open Go.RowKit
variable {P : Program} {ops : Array Oper} {Q : Exit → Act → World → Prop}
/-- The operations of lat come behind operation ix. -/
def latB (ops : Array Oper) (ix : Nat) (lat : List Nat) : Bool := lat.all fun j => match ops[j]? with
  | none => false
  | some o => o.after.any fun e => Region.binds .any e && (e.on == ix || lat.contains e.on)
theorem latB_out {ix i : Nat} {lat : List Nat} {listed : Array Bool} {o : Oper} (h : latB ops ix lat = true) (hi : ops[i]? = some o) (hall : ∀ e ∈ o.after, Region.binds .any e = true → listed.getD e.on false = true)
    (hx : listed.getD ix false = false) (hl : ∀ j ∈ lat, listed.getD j false = false) : i ∉ lat := by
  intro hm
  have h1 := List.all_eq_true.1 h i hm
  simp only [hi] at h1
  obtain ⟨e, he, hb⟩ := Array.any_eq_true'.1 h1
  simp only [Bool.and_eq_true, Bool.or_eq_true, beq_iff_eq, List.contains_iff_mem] at hb
  have h2 := hall e he hb.1
  rcases hb.2 with h3 | h3
  · rw [h3, hx] at h2; cases h2
  · rw [hl _ h3] at h2; cases h2
theorem SlotsB.special {n i b : Nat} {posts : Posts} {o : Oper} {listed : Array Bool} {a : Act} {w w' : World} {v : Value} {lat : List Nat} (hB : eachB ops n = true) (hi : ops[i]? = some o) (hz : a.tmps.size = n) (hlat : ∀ j ∈ lat, listed.getD j false = false)
    (h : SlotsB ops posts b listed a w) (hst : ∀ t u, o.dst ≠ some t → (∀ (j : Nat) (o : Oper), j ∈ lat → ops[j]? = some o → o.dst ≠ some t) → posts b t u w → posts b t u w') (hv : ∀ d, o.dst = some d → posts b d v w') : SlotsB ops posts b (listed.setIfInBounds i true) (a.put o.dst v) w' := by
  intro t ht
  by_cases hd : o.dst = some t
  · have hlt := (eachB_dst hB hi hd).1
    rw [hd, eval_put_self (show t < a.tmps.size by rw [hz]; exact hlt)]
    exact hv t hd
  · have e : (a.put o.dst v).eval (.tmp t) = a.eval (.tmp t) := Act.eval_put fun d hd' e => hd (by cases e; exact hd')
    rw [e]
    have old : ∀ (j : Nat) (oj : Oper), ops[j]? = some oj → oj.dst = some t → listed.getD j false = true := by
      intro j oj hj hdj
      have := ht j oj hj hdj
      have hji : i ≠ j := by
        rintro rfl
        rw [hi] at hj
        cases hj
        exact hd hdj
      rwa [getD_set_ne false hji] at this
    refine hst t _ hd (fun j oj hjl hj hdj => ?_) (h t old)
    have := old j oj hj hdj
    rw [hlat j hjl] at this
    cases this
theorem wp_region_each3 {id n ia is_ ix : Nat} {a0 : Act} {w0 : World} {oa os ox : Oper} {p : Tmp} {ob : Obj} (lat : List Nat) (posts : Posts) (blk : Nat → Bool → World → Prop) (hm : P.follows .mixedOrders = true) (hB : eachB ops n = true) (hn : a0.tmps.size = n)
    (hst : ∀ (b : Nat) (t : Tmp) (v : Value) (w w' : World), ExtB b w w' → posts b t v w → posts b t v w')
    (hsb : ∀ (b : Nat) (s : Bool) (w w' : World), b < w.heap.size → Below w.heap.size w w' → blk b s w → blk b s w')
    (h0 : ∀ b, w0.heap.size ≤ b → ∀ t, (∀ (j : Nat) (o : Oper), ops[j]? = some o → o.dst ≠ some t) → posts b t (a0.eval (.tmp t)) w0)
    (hia : ops[ia]? = some oa) (hda : oa.dst = some p) (hga : oa.guard = none) (hal : ∀ (a : Act) (w : World) (K : Act → World → Prop), K (a.put oa.dst (.pointer (some ⟨w.heap.size, 0, none⟩))) (w.alloc ob) → oa.wp P a w K Q)
    (hpa : ∀ b w, posts b p (.pointer (some ⟨b, 0, none⟩)) w) (hba : ∀ (w : World), blk w.heap.size false (w.alloc ob))
    (his : ops[is_]? = some os) (hds : os.dst = none)
    (hstore : ∀ (b : Nat) (a : Act) (w : World), Below w0.heap.size w0 w → w0.heap.size ≤ b → b < w.heap.size → (∀ t ∈ os.looksAt ops, posts b t (a.eval (.tmp t)) w) → blk b false w →
      Region.wanted os (yielded ops a.tmps) = true ∧ os.wp P a w (fun a' w' => a' = a ∧ ExtB b w w' ∧ w'.heap.size = w.heap.size ∧ Below w0.heap.size w0 w' ∧ blk b true w') Q)
    (hafter : os.after.any fun e => Region.binds .any e && e.on == ia)
    (hix : ops[ix]? = some ox) (hxa : ia ≠ ix) (hxs : is_ ≠ ix) (hlat : latB ops ix lat = true) (hls : is_ ∈ lat)
    (hx : ∀ (B : Nat → Prop) (a : Act) (w : World), (∃ b, B b) → Below w0.heap.size w0 w → (∀ b, B b → ∀ t ∈ ox.looksAt ops, posts b t (a.eval (.tmp t)) w) →
      Region.wanted ox (yielded ops a.tmps) = true ∧ ox.wp P a w (fun a' w' => Below w0.heap.size w0 w' ∧ w.heap.size ≤ w'.heap.size ∧ ∃ v, a' = a.put ox.dst v ∧ ∀ b, B b → (b < w.heap.size ∨ w'.heap.size ≤ b) →
        (∀ d, ox.dst = some d → posts b d v w') ∧ (b < w.heap.size → blk b false w → blk b false w') ∧ ∀ t u, ox.dst ≠ some t → (∀ (j : Nat) (o : Oper), j ∈ lat → ops[j]? = some o → o.dst ≠ some t) → posts b t u w → posts b t u w') Q)
    (hops : ∀ (i : Nat) (o : Oper), ops[i]? = some o → i ≠ ia → i ≠ is_ → i ≠ ix → OpOk P ops Q posts w0 o)
    (hend : ∀ (b : Nat) (a : Act) (w : World), Below w0.heap.size w0 w → a.defers = a0.defers → a.tmps.size = n → w0.heap.size ≤ b → b < w.heap.size → (∀ t, posts b t (a.eval (.tmp t)) w) → blk b true w → Q .normal a w) :
    (Code.region id ops true).wp P Q a0 w0 := by
  refine wp_region_any hm ?_
  have hd0 : Below w0.heap.size w0 { w0 with drawn := w0.drawn + 1 } := (Below.refl _ w0).drew
  have hne : ia ≠ is_ := by
    rintro rfl
    rw [hia] at his
    cases his
    rw [hda] at hds
    cases hds
  refine wpAny_inv (fun listed a w => Below w0.heap.size w0 w ∧ a.defers = a0.defers ∧ a.tmps.size = n ∧ listed.size = ops.size ∧ (listed.getD ix false = false → ∀ j ∈ lat, listed.getD j false = false) ∧
    ((listed.getD ia false = false ∧ listed.getD is_ false = false ∧ ∀ b, w.heap.size ≤ b → SlotsB ops posts b listed a w) ∨
     (listed.getD ia false = true ∧ ∃ b, w0.heap.size ≤ b ∧ b < w.heap.size ∧ SlotsB ops posts b listed a w ∧ blk b (listed.getD is_ false) w))) ?_ ?_ ops.size _ a0 _ (List.range ops.size) (by simp) (fun j hj _ => List.mem_range.2 hj) ⟨hd0, rfl, hn, by simp, ?_, .inl ⟨?_, ?_, fun b hb t ht => ?_⟩⟩
  · rintro listed a w ⟨h1, h2, h3, hs, -, h4⟩ hr
    have hall := eachB_done hB hs hr
    have hla := hall ia (Array.getElem?_eq_some_iff.1 hia).1
    have hlst := hall is_ (Array.getElem?_eq_some_iff.1 his).1
    rcases h4 with ⟨k, -, -⟩ | ⟨-, b, k1, k2, k3, k4⟩
    · rw [hla] at k; cases k
    · rw [hlst] at k4
      exact hend b a w h1 h2 h3 k1 k2 (fun t => k3 t fun j o hj hdj => hall j (Array.getElem?_eq_some_iff.1 hj).1) k4
  · rintro listed a w i ⟨h1, h2, h3, hs, hI, h4⟩ hi
    obtain ⟨hun, o, ho, hall⟩ := mem_ready.1 hi
    have hil := (Array.getElem?_eq_some_iff.1 ho).1
    have hun2 : listed.getD i false = false := by
      have : i < listed.size := by omega
      simpa [this] using hun
    have hself : (listed.setIfInBounds i true).getD i false = true := by
      have : i < listed.size := by omega
      simp [this]
    have hI2 : (listed.setIfInBounds i true).getD ix false = false → ∀ j ∈ lat, (listed.setIfInBounds i true).getD j false = false := by
      intro k j hj
      by_cases hix2 : i = ix
      · rw [← hix2, hself] at k; cases k
      · rw [getD_set_ne false hix2] at k
        have hnot := latB_out hlat ho hall k (hI k)
        have hij : i ≠ j := by
          rintro rfl
          exact hnot hj
        rw [getD_set_ne false hij]
        exact hI k j hj
    unfold wpOp
    by_cases hcase : i = ia
    · subst hcase
      rw [hia] at ho
      cases ho
      have hw : Region.wanted oa (yielded ops a.tmps) = true := by simp [Region.wanted, hga]
      simp only [hia, hw, if_true]
      refine .inl (hal a w _ ?_)
      rcases h4 with ⟨-, k2, k3⟩ | ⟨k, -⟩
      · have hbw : Below w.heap.size w (w.alloc ob) := (Below.refl _ w).alloc (Nat.le_refl _) _
        refine ⟨h1.trans (hbw.mono h1.size), ?_, ?_, by simpa using hs, hI2, .inr ⟨hself, w.heap.size, h1.size, by simp, ?_, ?_⟩⟩
        · rw [← h2, hda]; rfl
        · rw [← h3, hda]; simp [Act.put]
        · exact SlotsB.set hst hB hia h3 (k3 _ (Nat.le_refl _)) (ExtB.below hbw) fun d hd => by rw [hda] at hd; cases hd; exact hpa _ _
        · rw [getD_set_ne false hne, k2]; exact hba w
      · rw [hun2] at k; cases k
    by_cases hcase2 : i = is_
    · subst hcase2
      rw [his] at ho
      cases ho
      rcases h4 with ⟨k, -, -⟩ | ⟨k, b, k1, k2, k3, k4⟩
      · exfalso
        obtain ⟨e, he, hb⟩ := Array.any_eq_true'.1 hafter
        simp only [Bool.and_eq_true, beq_iff_eq] at hb
        have := hall e he hb.1
        rw [hb.2, k] at this
        cases this
      · rw [hun2] at k4
        obtain ⟨hw, hwp⟩ := hstore b a w h1 k1 k2 (fun t ht => k3 t fun j oj hj hdj => eachB_looks hB his ht hj hdj hall) k4
        simp only [his, hw, if_true]
        refine .inl (Oper.wp_mono ?_ hwp)
        rintro a' w' ⟨rfl, q1, q2, q3, q4⟩
        refine ⟨q3, h2, h3, by simpa using hs, hI2, .inr ⟨by rw [getD_set_ne false (Ne.symm hne)]; exact k, b, k1, by omega, ?_, by rw [hself]; exact q4⟩⟩
        intro t ht
        refine hst b t _ _ _ q1 (k3 t fun j oj hj hdj => ?_)
        have := ht j oj hj hdj
        have hji : i ≠ j := by
          rintro rfl
          rw [his] at hj
          cases hj
          rw [hds] at hdj
          cases hdj
        rwa [getD_set_ne false hji] at this
    by_cases hcase3 : i = ix
    · subst hcase3
      rw [hix] at ho
      cases ho
      have hlf := hI hun2
      rcases h4 with ⟨k1, k2, k3⟩ | ⟨k, b, k1, k2, k3, k4⟩
      · obtain ⟨hw, hwp⟩ := hx (fun b => w.heap.size ≤ b) a w ⟨_, Nat.le_refl _⟩ h1 (fun b hb t ht => k3 b hb t fun j oj hj hdj => eachB_looks hB hix ht hj hdj hall)
        simp only [hix, hw, if_true]
        refine .inl (Oper.wp_mono ?_ hwp)
        rintro a' w' ⟨hb', hsz, v, rfl, hv⟩
        refine ⟨hb', ?_, ?_, by simpa using hs, hI2, .inl ⟨by rw [getD_set_ne false hcase]; exact k1, by rw [getD_set_ne false hcase2]; exact k2, fun b hb => ?_⟩⟩
        · rw [← h2]; cases ox.dst <;> rfl
        · rw [← h3]; cases ox.dst <;> simp [Act.put]
        · obtain ⟨q1, -, q3⟩ := hv b (by omega) (.inr hb)
          exact SlotsB.special hB hix h3 hlf (k3 b (by omega)) q3 q1
      · obtain ⟨hw, hwp⟩ := hx (fun x => x = b) a w ⟨_, rfl⟩ h1 (fun x hx t ht => by subst hx; exact k3 t fun j oj hj hdj => eachB_looks hB hix ht hj hdj hall)
        simp only [hix, hw, if_true]
        refine .inl (Oper.wp_mono ?_ hwp)
        rintro a' w' ⟨hb', hsz, v, rfl, hv⟩
        obtain ⟨q1, q2, q3⟩ := hv b rfl (.inl k2)
        refine ⟨hb', ?_, ?_, by simpa using hs, hI2, .inr ⟨by rw [getD_set_ne false hcase]; exact k, b, k1, by omega, SlotsB.special hB hix h3 hlf k3 q3 q1, ?_⟩⟩
        · rw [← h2]; cases ox.dst <;> rfl
        · rw [← h3]; cases ox.dst <;> simp [Act.put]
        · rw [getD_set_ne false hcase2]
          rw [hlf is_ hls] at k4 ⊢
          exact q2 k2 k4
    have hok := hops i o ho hcase hcase2 hcase3
    rcases h4 with ⟨k1, k2, k3⟩ | ⟨k, b, k1, k2, k3, k4⟩
    · obtain ⟨hw, hwp⟩ := hok (fun b => w.heap.size ≤ b) a w ⟨_, Nat.le_refl _⟩ h1 (fun b hb t ht => k3 b hb t fun j oj hj hdj => eachB_looks hB ho ht hj hdj hall)
      simp only [ho, hw, if_true]
      refine .inl (Oper.wp_mono ?_ hwp)
      rintro a' w' ⟨hb', v, rfl, hv⟩
      have hsz := hb'.size
      refine ⟨h1.trans (hb'.mono h1.size), ?_, ?_, by simpa using hs, hI2, .inl ⟨by rw [getD_set_ne false hcase]; exact k1, by rw [getD_set_ne false hcase2]; exact k2, fun b hb => SlotsB.set hst hB ho h3 (k3 b (by omega)) (ExtB.below hb') fun d hd => hv d hd b (by omega) (.inr hb)⟩⟩
      · rw [← h2]; cases o.dst <;> rfl
      · rw [← h3]; cases o.dst <;> simp [Act.put]
    · obtain ⟨hw, hwp⟩ := hok (fun x => x = b) a w ⟨_, rfl⟩ h1 (fun x hx t ht => by subst hx; exact k3 t fun j oj hj hdj => eachB_looks hB ho ht hj hdj hall)
      simp only [ho, hw, if_true]
      refine .inl (Oper.wp_mono ?_ hwp)
      rintro a' w' ⟨hb', v, rfl, hv⟩
      have hsz := hb'.size
      refine ⟨h1.trans (hb'.mono h1.size), ?_, ?_, by simpa using hs, hI2, .inr ⟨by rw [getD_set_ne false hcase]; exact k, b, k1, by omega, SlotsB.set hst hB ho h3 k3 (ExtB.below hb') fun d hd => hv d hd b rfl (.inl k2), by rw [getD_set_ne false hcase2]; exact hsb b _ _ _ k2 hb' k4⟩⟩
      · rw [← h2]; cases o.dst <;> rfl
      · rw [← h3]; cases o.dst <;> simp [Act.put]
  · intro _ j _
    by_cases hj : j < ops.size <;> simp [hj]
  · have := (Array.getElem?_eq_some_iff.1 hia).1
    simp [this]
  · have := (Array.getElem?_eq_some_iff.1 his).1
    simp [this]
  · refine hst b t _ _ _ (ExtB.below (w := w0) ((Below.refl _ w0).drew)) (h0 b hb t fun j o hj hd => ?_)
    have := ht j o hj hd
    have hjl := (Array.getElem?_eq_some_iff.1 hj).1
    simp [hjl] at this
theorem wp_region_each3P {id n ia is_ ix : Nat} {a0 : Act} {w0 : World} {oa os ox : Oper} {p : Tmp} {ob : Obj} (ds : List Tmp) (lat : List Nat) (posts : Posts) (blk : Nat → Bool → World → Prop) (hm : P.follows .mixedOrders = true) (hB : eachB ops n = true) (hn : a0.tmps.size = n) (hdsb : dsB ops ds = true)
    (hst : ∀ (b : Nat) (t : Tmp) (v : Value) (w w' : World), ExtB b w w' → posts b t v w → posts b t v w')
    (hsb : ∀ (b : Nat) (s : Bool) (w w' : World), b < w.heap.size → Below w.heap.size w w' → blk b s w → blk b s w')
    (h0 : ∀ b, w0.heap.size ≤ b → ∀ t, (∀ (j : Nat) (o : Oper), ops[j]? = some o → o.dst ≠ some t) → posts b t (a0.eval (.tmp t)) w0)
    (hia : ops[ia]? = some oa) (hda : oa.dst = some p) (hga : oa.guard = none) (hal : ∀ (a : Act) (w : World) (K : Act → World → Prop), K (a.put oa.dst (.pointer (some ⟨w.heap.size, 0, none⟩))) (w.alloc ob) → oa.wp P a w K Q)
    (hpa : ∀ b w, posts b p (.pointer (some ⟨b, 0, none⟩)) w) (hba : ∀ (w : World), blk w.heap.size false (w.alloc ob))
    (his : ops[is_]? = some os) (hds : os.dst = none)
    (hstore : ∀ (b : Nat) (a : Act) (w : World), Below w0.heap.size w0 w → w0.heap.size ≤ b → b < w.heap.size → (∀ t ∈ os.looksAt ops, posts b t (a.eval (.tmp t)) w) → blk b false w →
      Region.wanted os (yielded ops a.tmps) = true ∧ os.wp P a w (fun a' w' => a' = a ∧ ExtB b w w' ∧ w'.heap.size = w.heap.size ∧ Below w0.heap.size w0 w' ∧ blk b true w') Q)
    (hafter : os.after.any fun e => Region.binds .any e && e.on == ia)
    (hix : ops[ix]? = some ox) (hxa : ia ≠ ix) (hxs : is_ ≠ ix) (hlat : latB ops ix lat = true) (hls : is_ ∈ lat)
    (hx : ∀ (B : Nat → Prop) (a : Act) (w : World), (∃ b, B b) → Below w0.heap.size w0 w → (∀ b, B b → ∀ t ∈ ox.looksAt ops, posts b t (a.eval (.tmp t)) w) →
      Region.wanted ox (yielded ops a.tmps) = true ∧ ox.wp P a w (fun a' w' => Below w0.heap.size w0 w' ∧ w.heap.size ≤ w'.heap.size ∧ ∃ v, a' = a.put ox.dst v ∧ ∀ b, B b → (b < w.heap.size ∨ w'.heap.size ≤ b) →
        (∀ d, ox.dst = some d → posts b d v w') ∧ (b < w.heap.size → blk b false w → blk b false w') ∧ ∀ t u, ox.dst ≠ some t → (∀ (j : Nat) (o : Oper), j ∈ lat → ops[j]? = some o → o.dst ≠ some t) → posts b t u w → posts b t u w') Q)
    (hops : ∀ (i : Nat) (o : Oper), ops[i]? = some o → i ≠ ia → i ≠ is_ → i ≠ ix → OpOk P ops Q posts w0 o)
    (hend : ∀ (b : Nat) (f : Tmp → Value) (w : World), Below w0.heap.size w0 w → w0.heap.size ≤ b → b < w.heap.size → (∀ t ∈ ds, posts b t (f t) w) → blk b true w → Q .normal (puts f a0 ds) w) :
    (Code.region id ops true).wp P Q a0 w0 := by
  refine wp_region_each3 lat (Keeps ops a0 posts) blk hm hB hn (fun b t v w w' hE h => ⟨hst b t v w w' hE h.1, h.2⟩) hsb (fun b hb t ht => ⟨h0 b hb t ht, fun _ => rfl⟩) hia hda hga hal (fun b w => ⟨hpa b w, fun hn => absurd hda (hn ia oa hia)⟩) hba his hds
    (fun b a w q1 q2 q3 q4 q5 => hstore b a w q1 q2 q3 (fun t ht => (q4 t ht).1) q5) hafter hix hxa hxs hlat hls ?_ (fun i o hi h1 h2 h3 => (hops i o hi h1 h2 h3).keeps hi) ?_
  · intro B a w q1 q2 q3
    obtain ⟨h1, h2⟩ := hx B a w q1 q2 fun b hb t ht => (q3 b hb t ht).1
    refine ⟨h1, Oper.wp_mono ?_ h2⟩
    rintro a' w' ⟨r1, r2, v, r3, r4⟩
    refine ⟨r1, r2, v, r3, fun b hb hbb => ?_⟩
    obtain ⟨k1, k2, k3⟩ := r4 b hb hbb
    exact ⟨fun d hd => ⟨k1 d hd, fun hn => absurd hd (hn ix ox hix)⟩, k2, fun t u hd hl hp => ⟨k3 t u hd hl hp.1, hp.2⟩⟩
  intro b a w hb h1 h2 hb1 hb2 hp hblk
  rw [puts_of hdsb h1 (h2.trans hn.symm) hp]
  exact hend b _ w hb hb1 hb2 (fun t _ => (hp t).1) hblk
end
section
open Go.RowKit
variable {P : Program} (w : World)
/-- An append to an own row: the new row is the old one or lies in a new block; rows no longer than it read as they did. -/
theorem run_append_keeps (t ty e : TypeId) (i : TypeInfo) (z : Value) (size bytes : Nat) (ht : P.underlying t = some (.slice e)) (hi : P.info? e = some i) (hz : i.zero = some z)
    (hsize : i.size = size) (hby : i.bytes = bytes) (hzs : z.cells.size = size) (hsz : 0 < size)
    (v : Value) (n : Nat) (xs : List Value) (hown : w.ownsRow 0 e size v n xs)
    (a : Addr) (m c : Nat) (news : List Value) (hl : news.length = m * size) (hnews : ∀ j u, news[j]? = some u → w.cell? (a.add j) = some u) (h1 : ∀ u ∈ news, u.oneCell' = true)
    (h63 : n + m ≤ maxLen) (hbytes : (n + m) * bytes ≤ 140737488355328) :
    ∃ v' w', (Builtin.append_ #[t, t] ty #[v, .slice (some a) m c]).run P w = .ok v' w' ∧ w'.ownsRow 0 e size v' (n + m) (xs ++ news) ∧ w.grownBy w' v.ownBlock ∧
      (v'.ownBlock = v.ownBlock ∨ v'.ownBlock = some w.heap.size) ∧ ∀ (B : Nat) (u : Value) (k : Nat) (ys : List Value), k ≤ n → w.ownsRow B e size u k ys → w'.ownsRow B e size u k ys := by
  obtain ⟨v', w', hr, h2, h3, h4⟩ := run_append_where (P := P) w t ty e i z size bytes ht hi hz hsize hby hzs hsz v n xs hown a m c news hl hnews h1 h63 hbytes
  refine ⟨v', w', hr, h2, h3, h4, fun B u k ys hk hu => ?_⟩
  subst hsize
  subst hby
  have hsmall : n + m ≤ 9223372036854775807 := by simp only [maxLen] at h63; omega
  have stay : (∀ k, k < w.heap.size → w'.heap[k]? = w.heap[k]?) → w'.ownsRow B e i.size u k ys := fun hk => own_same2 hu fun j hj => hk j (hu.lt j (mem_blk.1 hj)).2
  rcases hown.2 with ⟨rfl, rfl⟩ | ⟨g, cap, cur, rfl, hbg, hg, hnc, hcm, hcs, htake⟩
  · exact stay fun k hk => h3.block k hk (by simp [Value.ownBlock])
  · by_cases hroom : n + m ≤ cap
    · have hfit : n * i.size + news.length ≤ cur.size := by rw [hl, hcs, ← Nat.add_mul]; exact Nat.mul_le_mul_right _ hroom
      have hx := run_append_room (P := P) w t ty e i ht hi g n cap cur hg a m c news hl hnews h1 hroom hfit
      rw [hx] at hr
      injection hr with hr1 hr2
      rcases hu.2 with hnil | ⟨g2, c2, cur2, rfl, hb2, hg2, hnc2, hcm2, hcs2, ht2⟩
      · exact ⟨hu.1, .inl hnil⟩
      · by_cases hgg : g2 = g
        · subst hgg
          rw [hg] at hg2
          cases hg2
          have hks : k * i.size ≤ n * i.size := Nat.mul_le_mul_right _ hk
          refine ⟨hu.1, .inr ⟨g2, c2, _, rfl, hb2, by rw [← hr2]; exact setRow_heap w g2 cur _ e _ hg, hnc2, hcm2, ?_, ?_⟩⟩
          · rw [← hcs2]
            simp only [List.size_toArray, List.length_append, List.length_take, List.length_drop, Array.length_toList]
            omega
          · rw [← ht2]
            show (cur.toList.take (n * i.size) ++ news ++ cur.toList.drop (n * i.size + news.length)).take (k * i.size) = _
            have hlt : k * i.size ≤ (cur.toList.take (n * i.size)).length := by rw [List.length_take, Array.length_toList]; omega
            rw [List.append_assoc, List.take_append_of_le_length hlt, List.take_take, Nat.min_eq_left hks]
        · exact ⟨hu.1, .inr ⟨g2, c2, cur2, rfl, hb2, (h3.block g2 (Array.getElem?_eq_some_iff.1 hg2).1 (by simpa [Value.ownBlock] using hgg)).trans hg2, hnc2, hcm2, hcs2, ht2⟩⟩
    · have holds : ∀ j u, xs[j]? = some u → w.cell? ((⟨g, 0, none⟩ : Addr).add j) = some u := hown.cells (g := g) rfl
      have hx := run_append_grow (P := P) w t ty e i z ht hi hz ⟨g, 0, none⟩ n cap xs hown.1 holds a m c news hl hnews (by omega) (by omega) (growslice_fits (by omega) hbytes)
      rw [hx] at hr
      injection hr with hr1 hr2
      exact stay fun k hk => by rw [← hr2]; exact heap_alloc_old w.drew _ hk
theorem opwp_app {o : Oper} {a : Act} {w : World} {K : Act → World → Prop} {Q : Exit → Act → World → Prop} {s x : Operand} {t : TypeId}
    (hop : o.op = .call { callee := .builtin .append, args := #[s, x], argTypes := #[t, t] }) {v u v' : Value} {w' : World} (hs : a.eval s = v) (hx : a.eval x = u)
    (hr : (Builtin.append_ #[t, t] o.type #[v, u]).run P w = .ok v' w') (hK : K (a.put o.dst v') w') : o.wp P a w K Q := by
  unfold Oper.wp execOp
  simp only [hop, resolve, invoke, builtin, Sem.run_bind, Sem.run_pure, Result.andThen_ok, List.map_toArray, List.map_cons, List.map_nil, hs, hx, hr]
  exact hK
end
section
open Go.RowKit
theorem stepC_one (q : List PS) : ∀ u ∈ q.flatMap stepC, u.oneCell' = true := by
  intro u hu
  obtain ⟨s, -, hs⟩ := List.mem_flatMap.1 hu
  unfold stepC at hs
  simp only [List.mem_cons, List.not_mem_nil, or_false] at hs
  rcases hs with rfl | rfl | rfl <;> rfl
set_option maxRecDepth 100000 in
/-- A path behind a path of one's own. -/
theorem app_steps {w : World} {p q : List PS} {v : Value} {A : Option Addr} {c : Nat} (hv : w.ownsRow 0 50 3 v p.length (p.flatMap stepC)) (hq : StepRd w (.slice A q.length c) q) (hz : p.length + q.length ≤ 1000) (ty : TypeId) :
    ∃ v' w', (Builtin.append_ #[22, 22] ty #[v, .slice A q.length c]).run Tryz.prog w = .ok v' w' ∧ w'.ownsRow 0 50 3 v' (p ++ q).length ((p ++ q).flatMap stepC) ∧ w.grownBy w' v.ownBlock ∧
      (v'.ownBlock = v.ownBlock ∨ v'.ownBlock = some w.heap.size) ∧ ∀ (B : Nat) (u : Value) (k : Nat) (ys : List Value), k ≤ p.length → w.ownsRow B 50 3 u k ys → w'.ownsRow B 50 3 u k ys := by
  obtain ⟨i0, hi, hz0, hz1, hz2⟩ := info_parts3 stepInfo
  rw [List.length_append, List.flatMap_append]
  by_cases h0 : A = none
  · subst h0
    have hc : c = 0 := by obtain ⟨A', c', h1, -, -, h2, -⟩ := hq; injection h1 with e1 e2 e3; subst e1 e3; exact h2 rfl
    have hl : q.length = 0 := by
      rcases Nat.eq_zero_or_pos q.length with h | h
      · exact h
      · obtain ⟨b, o, e, -⟩ := Rd.cells hq h
        cases e
    obtain rfl : q = [] := List.eq_nil_of_length_eq_zero hl
    subst hc
    refine ⟨v, w, run_append_owned_none (P := Tryz.prog) (w := w) 0 22 ty 50 i0 3 Tryz.underlying22 hi v _ _ hv, by simpa using hv, ⟨rfl, rfl, rfl, Nat.le_refl _, fun _ _ _ => rfl⟩, .inl rfl, fun _ _ _ _ _ h => h⟩
  · obtain ⟨ad, rfl⟩ : ∃ ad, A = some ad := by cases A with | none => exact absurd rfl h0 | some ad => exact ⟨ad, rfl⟩
    refine run_append_keeps (P := Tryz.prog) w 22 ty 50 i0 (.agg #[.string ⟨#[]⟩, .int .i64 0, .bool false]) 3 32 Tryz.underlying22 hi hz0 hz1 hz2 rfl (by decide) v p.length _ hv ad q.length c (q.flatMap stepC) (steps_len q) ?_ (stepC_one q) (by unfold maxLen; omega) (by omega)
    intro j u hj
    have hjl : j < q.length * 3 := by rw [← steps_len]; exact (List.getElem?_eq_some_iff.1 hj).1
    obtain ⟨b, o, e, hb, hcell⟩ := Rd.cells hq (by omega)
    cases e
    rw [← hj, ← hcell j hjl, Addr.add_lit]
/-- A path of one's own, not in block b. -/
def RQp (B : Nat) (w : World) (q : List PS) (b : Nat) (v : Value) : Prop := w.ownsRow B 50 3 v q.length (q.flatMap stepC) ∧ v.ownBlock ≠ some b
theorem RQp.ext {B : Nat} {w w' : World} {q : List PS} {b : Nat} {v : Value} (h : RQp B w q b v) (hE : ExtB b w w') : RQp B w' q b v :=
  ⟨own_same2 h.1 fun i hi => hE.2 i ((h.1.lt i (mem_blk.1 hi)).2) fun e => h.2 (by rw [← e]; exact mem_blk.1 hi), h.2⟩
/-- An empty row without room. -/
def E0p (B : Nat) (w : World) (b : Nat) (v : Value) : Prop := ∃ g, v = .slice (some ⟨g, 0, none⟩) 0 0 ∧ B ≤ g ∧ g ≠ b ∧ w.heap[g]? = some (.cells #[] 50 (0, 0))
theorem E0p.ext {B : Nat} {w w' : World} {b : Nat} {v : Value} (h : E0p B w b v) (hE : ExtB b w w') : E0p B w' b v := by
  obtain ⟨g, h1, h2, h3, h4⟩ := h
  exact ⟨g, h1, h2, h3, stay hE h4 h3⟩
theorem E0p.owns {B : Nat} {w : World} {b : Nat} {v : Value} (h : E0p B w b v) : w.ownsRow B 50 3 v 0 [] := by
  obtain ⟨g, rfl, h2, h3, h4⟩ := h
  exact ⟨rfl, .inr ⟨g, 0, #[], rfl, h2, h4, Nat.le_refl _, Nat.zero_le _, rfl, rfl⟩⟩
theorem E0p.of {B : Nat} {w w' : World} {b : Nat} {v : Value} (h : E0p B w b v) (ho : w'.ownsRow B 50 3 v 0 []) : E0p B w' b v := by
  obtain ⟨g, rfl, h2, h3, h4⟩ := h
  rcases ho.2 with ⟨h, -⟩ | ⟨g', c', cur, h, h5, h6, -, -, h7, -⟩
  · cases h
  · injection h with e1 e2 e3
    injection e1 with e1
    injection e1 with e1
    subst e1 e3
    have : cur = #[] := Array.eq_empty_of_size_eq_zero (by omega)
    subst this
    exact ⟨g, rfl, h2, h3, h6⟩
/-- What an append leaves of the block it writes to. -/
theorem app_lie {B b : Nat} {w w' : World} {v v' : Value} {q : List PS} (hB : B ≤ w.heap.size) (hlt : ∀ k, v.ownBlock = some k → B ≤ k ∧ k < w.heap.size) (hvb : v.ownBlock ≠ some b) (hbb : b < w.heap.size ∨ w'.heap.size ≤ b) (ho : w'.ownsRow 0 50 3 v' q.length (q.flatMap stepC)) (hwh : v'.ownBlock = v.ownBlock ∨ v'.ownBlock = some w.heap.size) : RQp B w' q b v' := by
  refine ⟨owns_up ho fun k hk => ?_, fun e => ?_⟩
  · rcases hwh with h | h
    · rw [h] at hk; exact (hlt k hk).1
    · rw [h] at hk; cases hk; exact hB
  · rcases hwh with h | h
    · exact hvb (h.symm.trans e)
    · have h1 := (ho.lt _ h).2
      rw [h] at e
      cases e
      omega
set_option maxHeartbeats 2000000 in
theorem opwp_bs0 {o : Oper} {a : Act} {w : World} {K : Act → World → Prop} {Q : Exit → Act → World → Prop} (hop : o.op = .buildSlice 22 0 #[]) (hK : K (a.put o.dst (.slice (some ⟨w.heap.size, 0, none⟩) 0 0)) (w.alloc (.cells #[] 50))) : o.wp Tryz.prog a w K Q := by
  refine opwp_val (w' := w.alloc (.cells #[] 50)) (.slice (some ⟨w.heap.size, 0, none⟩) 0 0) ?_ hK
  simp only [execOp, hop, List.map_toArray, List.map_cons, List.map_nil]
  go_simp
end
end Go.Proofs.YtlblddeemkefkaaGreatDoor
