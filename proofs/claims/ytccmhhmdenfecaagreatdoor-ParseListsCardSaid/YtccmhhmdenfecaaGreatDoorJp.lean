/- Plain: what a parsed value's tokens and tree are. -/
import Derived.Test.YtccmhhmdenfecaaGreatDoorJo
namespace Go.Proofs.YtccmhhmdenfecaaGreatDoor
set_option linter.unusedVariables false
set_option linter.unusedSimpArgs false
/-- A value's tokens, tree, count. -/
def VOut (s : List UInt8) (deep : Int) (t : Tok) (many : Int) (T : DT) (t1 : Tok) (m : Int) : Prop :=
  ∃ l, Run s t l t1 ∧ (∀ nk, nk ≠ 6 → cnt l nk = sizeD T) ∧ m = many + sizeD T ∧ deep + depthD T ≤ 64 ∧ FA T ∧ WfD T ∧ TokWf t1
def EOut (s : List UInt8) (mp : Bool) (deep : Int) (t : Tok) (many : Int) (ks : List (List UInt8)) (acc : List DT) (ks1 : List (List UInt8)) (l1 : List DT) (t1 : Tok) (m : Int) : Prop :=
  ∃ L K l, Run s t l t1 ∧ l1 = acc ++ L ∧ ks1 = ks ++ K ∧ (∀ nk, cnt l nk = sizesD L) ∧ m = many + sizesD L ∧ (deep ≤ 64 → deep + depthsD L ≤ 64) ∧ FAs L ∧ WfDs L ∧ (mp = false → K = []) ∧ (mp = true → K.length = L.length) ∧
    (∀ k ∈ K, k.length ≤ 9223372036854775807) ∧ (∀ had : List (List UInt8), (∀ x, x ∈ had ↔ x ∈ ks) → keysE had K = 0) ∧ TokWf t1
theorem cnt_low {t : Tok} (h : valB t.kind = false) (nk : Int) : cnt [t] nk = 0 := by
  rw [cnt, cnt, h, if_neg (by simp)]
  rfl
theorem lastP_low (mp : Bool) : valB (lastP mp) = false ∧ lastP mp ≠ 0 ∧ lastP mp ≠ 6 := by cases mp <;> decide
theorem shut_out {s : List UInt8} (hl : s.length ≤ 1073741824) {mp : Bool} {ks ks1 : List (List UInt8)} {acc l1 : List DT} {t t1 : Tok} {many m deep : Int} (hk : t.kind = lastP mp) (h : shutP s ks acc t many = .ok (ks1, l1, t1, m)) :
    EOut s mp deep t many ks acc ks1 l1 t1 m := by
  unfold shutP at h
  split at h
  · cases h
  rename_i hn
  cases h
  have hz : sizesD [] = 0 := by rw [sizesD]
  have hd : depthsD [] = 0 := by rw [depthsD]
  refine ⟨[], [], [t], .one (by rw [hk]; exact (lastP_low mp).2.1) hn, by simp, by simp, fun nk => ?_, by rw [hz]; omega, fun _ => by rw [hd]; omega, by rw [FAs]; trivial, by rw [WfDs]; trivial, fun _ => rfl, fun _ => rfl, fun k hk => (by cases hk), fun had _ => rfl, nextP_wf hl hn⟩
  rw [cnt_low (by rw [hk]; exact (lastP_low mp).1), hz]
theorem head_out {s : List UInt8} (hl : s.length ≤ 1073741824) {mp : Bool} {ks ks1 : List (List UInt8)} {t t1 : Tok} (hw : TokWf t) (h : headP s mp ks t = .ok (ks1, t1)) :
    ∃ K l, Run s t l t1 ∧ ks1 = ks ++ K ∧ (∀ nk, cnt l nk = 0) ∧ (mp = false → K = []) ∧ (mp = true → K.length = 1) ∧ (∀ k ∈ K, k.length ≤ 9223372036854775807) ∧ TokWf t1 ∧
      ∀ had : List (List UInt8), (∀ x, x ∈ had ↔ x ∈ ks) → ∃ had' : List (List UInt8), (∀ x, x ∈ had' ↔ x ∈ ks1) ∧ ∀ R, keysE had (K ++ R) = keysE had' R := by
  unfold headP at h
  split at h
  · rename_i hmp
    cases h
    exact ⟨[], [], .nil _, by simp, fun nk => rfl, fun _ => rfl, fun h => (by rw [hmp] at h; cases h), fun k hk => (by cases hk), hw, fun had hh => ⟨had, hh, fun R => rfl⟩⟩
  rename_i hmp
  split at h
  · cases h
  rename_i h12
  split at h
  · cases h
  rename_i h0
  split at h
  · cases h
  rename_i hks
  split at h
  · cases h
  rename_i c hc
  split at h
  · cases h
  rename_i h6
  split at h
  · cases h
  rename_i t2 ht2
  cases h
  have e12 : t.kind = 12 := Classical.byContradiction h12
  have e6 : c.kind = 6 := Classical.byContradiction h6
  refine ⟨[t.text], [t, c], .cons (by omega) hc (.one (by omega) ht2), rfl, fun nk => ?_, fun h => absurd h hmp, fun _ => rfl, ?_, nextP_wf hl ht2, fun had hh => ⟨t.text :: had, ?_, fun R => ?_⟩⟩
  · rw [cnt, cnt_low (by rw [e6]; decide), if_neg (by rintro ⟨-, hh⟩; exact hh ⟨e12, e6⟩)]
    rfl
  · intro k hk
    simp only [List.mem_singleton] at hk
    subst hk
    exact hw.2.2
  · intro x
    simp only [List.mem_cons, List.mem_append, List.not_mem_nil, or_false]
    rw [hh x]
    exact or_comm
  · rw [List.singleton_append, keysE, if_neg h0, if_neg (fun hx => hks ((hh _).1 hx))]
theorem fine_leaf {t : Tok} (h : bgB t.kind = true) (h3 : ¬ (t.kind = 3 ∨ t.kind = 1)) (hw : TokWf t) : FA (leafP t) ∧ WfD (leafP t) ∧ sizeD (leafP t) = 1 ∧ depthD (leafP t) = 1 ∧ valB t.kind = true := by
  have hz : sizesD [] = 0 := by rw [sizesD]
  have hd : depthsD [] = 0 := by rw [depthsD]
  have hv : valB t.kind = true := by
    simp only [bgB, Bool.or_eq_true, Bool.and_eq_true, decide_eq_true_eq] at h
    simp only [valB, Bool.or_eq_true, decide_eq_true_eq]
    omega
  obtain ⟨h1, h2, h4⟩ := hw
  have i0 : in64 0 := by constructor <;> decide
  have i1 : in64 1 := by constructor <;> decide
  have u0 : inU 0 := by constructor <;> decide
  have ik : ∀ k : Int, 0 ≤ k → k ≤ 20 → in64 k := fun k a b => ⟨by omega, by omega⟩
  unfold leafP
  refine ⟨?_, ?_, ?_, ?_, hv⟩
  · repeat' split
    all_goals (rw [FA, FAs]; exact ⟨by simp [Fine, suchD, keyedD, keysE], trivial⟩)
  · repeat' split
    all_goals
      rw [WfD, WfDs]
      exact ⟨ik _ (by decide) (by decide), by assumption, by assumption, by first | exact h4 | simp, by simp, trivial⟩
  · repeat' split
    all_goals (rw [sizeD, hz]; rfl)
  · repeat' split
    all_goals (rw [depthD, hd]; rfl)
theorem each_cons {s : List UInt8} (hl : s.length ≤ 1073741824) {mp : Bool} {deep many m' m : Int} {t t1 t2 t3 : Tok} {ks ks' K0 : List (List UInt8)} {acc L0 : List DT} {T : DT} {lr : List Tok}
    (hh : headP s mp ks t = .ok (ks', t1)) (hw : TokWf t) (hv : VOut s deep t1 many T t2 m') (hr : Run s t2 lr t3) (hc : ∀ nk, hdK lr nk ≠ 6) (hcnt : ∀ nk, cnt lr nk = sizesD L0) (hm : m = m' + sizesD L0)
    (hd : deep ≤ 64 → deep + depthsD L0 ≤ 64) (hf : FAs L0) (hwf : WfDs L0) (hk0 : mp = false → K0 = []) (hk1 : mp = true → K0.length = L0.length) (hkl : ∀ k ∈ K0, k.length ≤ 9223372036854775807)
    (hke : ∀ had : List (List UInt8), (∀ x, x ∈ had ↔ x ∈ ks') → keysE had K0 = 0) (hw3 : TokWf t3) : EOut s mp deep t many ks acc (ks' ++ K0) (acc ++ [T] ++ L0) t3 m := by
  obtain ⟨K, l, k1, rfl, k3, k4, k5, k6, k7, k8⟩ := head_out hl hw hh
  obtain ⟨lv, v1, v2, v3, v4, v5, v6, v7⟩ := hv
  refine ⟨T :: L0, K ++ K0, l ++ (lv ++ lr), k1.app (v1.app hr), by simp, by simp, fun nk => ?_, by rw [sizesD]; omega, fun h => ?_, by rw [FAs]; exact ⟨v5, hf⟩, by rw [WfDs]; exact ⟨v6, hwf⟩, fun h => by rw [k4 h, hk0 h]; rfl, fun h => by rw [List.length_append, k5 h, hk1 h, List.length_cons]; omega, ?_, fun had hhad => ?_, hw3⟩
  · rw [cnt_app, cnt_app, k3, v2 _ (hc nk), hcnt, sizesD]
    omega
  · rw [depthsD]
    have := hd h
    omega
  · intro k hk
    rcases List.mem_append.1 hk with hk | hk
    · exact k6 k hk
    · exact hkl k hk
  · obtain ⟨had', h1, h2⟩ := k8 had hhad
    rw [h2 K0]
    exact hke had' h1
theorem fine_node {kd : Int} (h : kd = 10 ∨ kd = 17) {K : List (List UInt8)} {L : List DT} (h1 : kd = 10 → K = []) (h2 : kd = 17 → K.length = L.length) (hk : keysE [] K = 0) : Fine (.mk kd 0 0 [] K L) := by
  rcases h with rfl | rfl
  · have := h1 rfl
    subst this
    refine ⟨?_, ?_⟩
    · rw [suchD]; simp [partD]
    · rw [keyedD, if_neg (by simp)]; rfl
  · have := h2 rfl
    refine ⟨?_, ?_⟩
    · rw [suchD]; simp [partD, this]
    · rw [keyedD, if_neg (by simp)]; exact hk
set_option maxHeartbeats 1000000 in
theorem val_run (s : List UInt8) (hl : s.length ≤ 1073741824) : ∀ (g : Nat), (∀ deep t many T t1 m, TokWf t → valP s g deep t many = .ok (T, t1, m) → VOut s deep t many T t1 m) ∧
    (∀ mp deep t many ks acc ks1 l1 t1 m, TokWf t → eachP s g mp deep t many ks acc = .ok (ks1, l1, t1, m) → EOut s mp deep t many ks acc ks1 l1 t1 m) := by
  have hz : sizesD [] = 0 := by rw [sizesD]
  have hd0 : depthsD [] = 0 := by rw [depthsD]
  intro g
  induction g with
  | zero => exact ⟨fun deep t many T t1 m _ h => by simp [valP] at h, fun mp deep t many ks acc ks1 l t1 m _ h => by simp [eachP] at h⟩
  | succ g ih =>
    refine ⟨fun deep t many T t1 m hw h => ?_, fun mp deep t many ks acc ks1 l1 t1 m hw h => ?_⟩
    · rw [valP] at h
      split at h
      · cases h
      rename_i hb
      split at h
      · cases h
      split at h
      · cases h
      rename_i h5 h64
      split at h
      · cases h
      rename_i t2 hn
      have hb' : bgB t.kind = true := by simpa using hb
      split at h
      · rename_i h31
        split at h
        · cases h
        rename_i ks l t3 m' he
        cases h
        obtain ⟨L, K, lt, e1, e2, e3, e4, e5, e6, e7, e8, e9, e10, e11, e12, e13⟩ := ih.2 _ _ _ _ _ _ _ _ _ _ (nextP_wf hl hn) he
        rw [List.nil_append] at e2 e3
        subst e2 e3
        have hk0 : t.kind ≠ 0 := by omega
        have hv : valB t.kind = true := by simp only [valB, Bool.or_eq_true, decide_eq_true_eq]; omega
        refine ⟨t :: lt, .cons hk0 hn e1, fun nk hnk => ?_, ?_, ?_, ?_, ?_, e13⟩
        · rw [cnt, e4, if_pos ⟨hv, by omega⟩, sizeD]
        · rw [sizeD]; omega
        · rw [depthD]; have := e6 (by omega); omega
        · rw [FA]
          refine ⟨fine_node (by split <;> simp) (fun h => e9 ?_) (fun h => e10 ?_) (e12 [] (fun x => Iff.rfl)), e7⟩
          · split at h
            · cases h
            · rename_i h1; simp [h1]
          · split at h
            · rename_i h1; simp [h1]
            · cases h
        · rw [WfD]
          refine ⟨?_, ⟨by decide, by decide⟩, ⟨by decide, by decide⟩, by simp, e11, e8⟩
          split <;> exact ⟨by decide, by decide⟩
      · rename_i h31
        cases h
        obtain ⟨f1, f2, f3, f4, f5⟩ := fine_leaf hb' h31 hw
        have hk0 : t.kind ≠ 0 := fun h0 => by rw [h0] at hb'; cases hb'
        refine ⟨[t], .one hk0 hn, fun nk hnk => ?_, by rw [f3], by rw [f4]; omega, f1, f2, nextP_wf hl hn⟩
        rw [cnt, cnt, f3, if_pos ⟨f5, fun h => hnk h.2⟩]
        rfl
    · rw [eachP] at h
      split at h
      · rename_i hk; exact shut_out hl hk h
      split at h
      · cases h
      rename_i ks' t1' hh
      split at h
      · cases h
      rename_i T t2 m' hv
      have hw1 := (head_out hl hw hh).choose_spec.choose_spec.2.2.2.2.2.2.1
      have hvo := ih.1 _ _ _ _ _ _ hw1 hv
      split at h
      · rename_i hk
        obtain ⟨L, K, l, e1, e2, e3, -⟩ := shut_out (deep := deep) hl hk h
        unfold shutP at h
        split at h
        · cases h
        rename_i hn
        cases h
        have := each_cons (K0 := []) (L0 := []) (lr := [t2]) (m := m) (acc := acc) hl hh hw hvo (.one (by rw [hk]; exact (lastP_low mp).2.1) hn) (fun nk => by show t2.kind ≠ 6; rw [hk]; exact (lastP_low mp).2.2) (fun nk => by rw [cnt_low (by rw [hk]; exact (lastP_low mp).1), hz]) (by rw [hz]; omega) (fun _ => by rw [hd0]; omega) (by rw [FAs]; trivial) (by rw [WfDs]; trivial) (fun _ => rfl) (fun _ => rfl) (fun k hk => by cases hk) (fun had _ => rfl) (nextP_wf hl hn)
        rw [List.append_nil, List.append_nil] at this
        exact this
      split at h
      · cases h
      rename_i hnl h5
      split at h
      · cases h
      split at h
      · cases h
      rename_i t3 hn
      have h5' : t2.kind = 5 := Classical.byContradiction h5
      obtain ⟨L, K, l, e1, rfl, rfl, e4, e5, e6, e7, e8, e9, e10, e11, e12, e13⟩ := ih.2 _ _ _ _ _ _ _ _ _ _ (nextP_wf hl hn) h
      exact each_cons (lr := [t2] ++ l) hl hh hw hvo ((Run.one (by omega) hn).app e1) (fun nk => by show t2.kind ≠ 6; omega) (fun nk => by rw [cnt_app, cnt_low (by rw [h5']; decide), e4]; omega) e5 e6 e7 e8 e9 e10 e11 e12 e13
end Go.Proofs.YtccmhhmdenfecaaGreatDoor
