/- The walks of slices.Clone at nodes, of path.put and path.Set. The walk of path.Set. -/
import Derived.Test.YtlblddeemkefkaaGreatDoorFb
import Derived.Test.YtlblddeemkefkaaGreatDoorEh
namespace Go.Proofs.YtlblddeemkefkaaGreatDoor
set_option linter.unusedVariables false
set_option linter.unusedSimpArgs false
section
section
open Go.RowKit
set_option maxRecDepth 100000 in
set_option maxHeartbeats 4000000 in
theorem clone_nodes (q : Nat) (xs : List Value) (A : Option Addr) (c : Nat) (w : World) (h : Rd w (.slice A q c) 6 q xs) (hone : ∀ u ∈ xs, u.oneCell' = true) (hn : q ≤ 1048576) :
    Calls Tryz.prog 89 #[.slice A q c] w fun e w' => (∃ v, e = .returned v ∧ w'.ownsRow w.heap.size 38 6 v q xs) ∧ Below w.heap.size w w' := by
  obtain ⟨i0, hi, hz0, hz1, hz2⟩ := info_parts nodeInfo
  have q24 : ∀ (w : World) (a : Option Addr) (n c n' c' : Nat), (binOp .eql 36 (.slice a n c) (.slice none n' c')).run Tryz.prog w = .ok (.bool a.isNone) w := fun w a n c n' c' => Lib.run_eql_slice_nil w _ _ a n c n' c' Tryz.underlying36
  have u24 : ∀ w, Sem.run Tryz.prog (underlying 36) w = .ok (TypeDesc.slice 38) w := run_underlying Tryz.underlying36
  cases A with
  | none =>
    obtain ⟨h1, h2, rfl⟩ := h.nil
    obtain rfl : xs = [] := List.eq_nil_of_length_eq_zero (by have := h.len; omega)
    subst h2
    clear h h1
    go_enter Tryz.func89, Tryz.ntmps89
    go_wp2
    go_returns
    exact ⟨⟨_, rfl, World.ownsRow_nil _ _ _ _⟩, Below.refl _ _⟩
  | some x =>
    have hc : ∀ j, j < q * 6 → w.cell? (x.add j) = xs[j]? ∧ (x.add j).block < w.heap.size := by
      intro j hj
      obtain ⟨b, o, e, hlt, hc⟩ := h.cells (by omega)
      injection e with e
      subst e
      rw [add_off]
      exact ⟨hc j (by omega), hlt⟩
    have HC := Lib.hid hc
    have HL := Lib.hid h.len
    have HO := Lib.hid hone
    clear h hc hone
    go_enter Tryz.func89, Tryz.ntmps89
    go_wp2_with (at_builtin; refine wpList_append_own _ rfl _ _ 36 rfl w.heap.size 38 i0 (.agg #[.int .i64 0, .int .i64 0, .int .u64 0, .string ⟨#[]⟩, .slice none 0 0, .slice none 0 0]) 6 88 Tryz.underlying36 hi hz0 hz1 hz2 rfl (by decide) _ _ _ rfl (World.ownsRow_made w #[] 0 (Nat.le_refl _) (Nat.zero_le _) rfl) x q c xs rfl ?c1 ?c2 ?c3 ?c4 ?c5 ?c6 ?_)
    case c1 => exact HL.out
    case c2 =>
      intro j u hj
      have hjl : j < q * 6 := by
        have := (List.getElem?_eq_some_iff.1 hj).1
        rw [HL.out] at this
        exact this
      obtain ⟨e1, e2⟩ := HC.out j hjl
      exact (((Below.refl w.heap.size w).alloc (Nat.le_refl _) _).cell e2).trans (e1.trans hj)
    case c3 => exact HO.out
    case c4 => unfold maxLen; omega
    case c5 => omega
    case c6 => simp
    intro v' w' hown hgrow _
    have hfin : w'.ownsRow w.heap.size 38 6 v' q xs := by simpa using hown
    have hbt := Lib.hid hfin
    have hbl := Lib.hid (((Below.refl w.heap.size w).alloc (Nat.le_refl _) _).grown hgrow (by simp) (by intro k hk; simp [Value.ownBlock] at hk; omega))
    clear hown hgrow hfin
    go_wp2
    go_ret
    exact ⟨⟨_, rfl, hbt.out⟩, hbl.out⟩

theorem NReps.one {w : World} : ∀ (l : List DT) (xs : List Value) (bs : List Nat), NReps w l xs bs → ∀ u ∈ xs, u.oneCell' = true
  | [], xs, bs, h => by rw [NReps] at h; rw [h.1]; simp
  | t :: ts, xs, bs, h => by
    rw [NReps] at h
    obtain ⟨c, b, xs', bs', h1, h2, rfl, -⟩ := h
    intro u hu
    rcases List.mem_append.1 hu with hu | hu
    · exact NRep.one t c b h1 u hu
    · exact NReps.one ts xs' bs' h2 u hu
/-- A tree whose node at a path is replaced; whether the path leads anywhere. -/
def putD : DT → List PS → DT → DT × Bool
  | _, [], N => (N, true)
  | .mk kd n u t ks l, s :: r, N =>
    if leadsD (.mk kd n u t ks l) s < 0 then (zT, false)
    else (.mk kd n u t ks (l.set (leadsD (.mk kd n u t ks l) s).toNat (putD (l.getD (leadsD (.mk kd n u t ks l) s).toNat (.mk 0 0 0 [] [] [])) r N).1), (putD (l.getD (leadsD (.mk kd n u t ks l) s).toNat (.mk 0 0 0 [] [] [])) r N).2)
theorem nrep_zero (w : World) : NRep w zT [.int .i64 0, .int .i64 0, .int .u64 0, .string ⟨#[]⟩, .slice none 0 0, .slice none 0 0] [] := by
  unfold zT
  rw [NRep]
  exact ⟨_, _, [], [], rfl, World.ownsRow_nil _ _ _ _, World.ownsRow_nil _ _ _ _, by rw [NReps]; exact ⟨rfl, rfl⟩, by simp [blkL, Value.ownBlock]⟩
set_option maxRecDepth 100000 in
/-- A path without its first step. -/
theorem step_tail {w : World} {s : PS} {r : List PS} {A : Option Addr} {m c : Nat} (h : StepRd w (.slice A m c) (s :: r)) (hc : m ≤ c) :
    ∃ A' c', r.length ≤ c' ∧ StepRd w (.slice A' r.length c') r ∧ ∀ W : World, (Instr.slice 22 (.slice A m c) (some (.int .i64 1)) none none).run Tryz.prog W = .ok (.slice A' r.length c') W := by
  obtain ⟨A0, c0, h1, h2, h3, h4, h5⟩ := h
  injection h1 with h1 h6 h7
  subst h1
  subst h7
  rw [List.length_cons] at h2 h6
  obtain ⟨b, o, rfl, hlt, hcell⟩ := h5 (by simp)
  have hsz : ∀ W : World, (sizeOf (Tryz.prog.elem 22)).run Tryz.prog W = .ok 3 W := fun W => by kernel_rfl
  refine ⟨if c = 1 then some ⟨b, o, none⟩ else some ⟨b, o + 3, none⟩, c - 1, by omega, ⟨_, _, rfl, by omega, steps_len r, ?_, ?_⟩, fun W => ?_⟩
  · intro h
    split at h <;> cases h
  · intro hr
    have hc1 : c ≠ 1 := by omega
    refine ⟨b, o + 3, by rw [if_neg hc1], hlt, fun j hj => ?_⟩
    have := hcell (3 + j) (by rw [List.length_cons]; omega)
    rw [← Nat.add_assoc] at this
    rw [this, List.flatMap_cons, List.getElem?_append_right (by simp [stepC])]
    congr 1
    simp [stepC]
  · have h := run_slice_l W 22 (some ⟨b, o, none⟩) m c Tryz.underlying22 .i64 1 (by omega) (by omega)
    have e : sliced (some ⟨b, o, none⟩) (Int.toNat 1) m c 3 = .slice (if c = 1 then some ⟨b, o, none⟩ else some ⟨b, o + 3, none⟩) r.length (c - 1) := by
      unfold sliced
      rw [h6]
      rfl
    rw [← e]
    refine h.trans ?_
    rw [hsz W]
    rfl
/-- What put returns. -/
def PutPost (bs bs' : List Nat) (B : Nat) (r : DT × Bool) (e : Ending) (w' : World) : Prop :=
  ∃ z0 z1 z2 z3 z4 z5 b, e = .returned (.tuple #[.agg #[z0, z1, z2, z3, z4, z5], .bool r.2]) ∧ NRep w' r.1 [z0, z1, z2, z3, z4, z5] b ∧ ∀ i ∈ b, i ∈ bs ∨ i ∈ bs' ∨ B ≤ i
def PutC (p : List PS) : Prop := ∀ (T N : DT) (w : World) (x0 x1 x2 x3 x4 x5 y0 y1 y2 y3 y4 y5 : Value) (bs bs' : List Nat) (A : Option Addr) (c : Nat), NRep w T [x0, x1, x2, x3, x4, x5] bs → NRep w N [y0, y1, y2, y3, y4, y5] bs' → SmallD T → StepRd w (.slice A p.length c) p → p.length ≤ c →
  Calls Tryz.prog 60 #[.agg #[x0, x1, x2, x3, x4, x5], .slice A p.length c, .agg #[y0, y1, y2, y3, y4, y5]] w fun e w' =>
    PutPost bs bs' w.heap.size (putD T p N) e w' ∧ Below w.heap.size w w'
set_option maxRecDepth 100000 in
set_option maxHeartbeats 8000000 in
theorem put_fin {w : World} {N : DT} {y0 y1 y2 y3 y4 y5 : Value} {bs bs' : List Nat} (hN : NRep w N [y0, y1, y2, y3, y4, y5] bs') (W : World) (h : Below w.heap.size w W) :
    PutPost bs bs' w.heap.size (N, true) (.returned (.tuple #[.agg #[y0, y1, y2, y3, y4, y5], .bool true])) W ∧ Below w.heap.size w W :=
  ⟨⟨_, _, _, _, _, _, _, rfl, hN.below h, fun i hi => .inr (.inl hi)⟩, h⟩
set_option maxRecDepth 100000 in
set_option maxHeartbeats 8000000 in
theorem put_nil : PutC [] := by
  intro T N w x0 x1 x2 x3 x4 x5 y0 y1 y2 y3 y4 y5 bs bs' A c hT hN hsm hp hpc
  obtain ⟨kd, nn, u, s, A1, m1, c1, A2, m2, c2, rfl, rfl, rfl, rfl, rfl, rfl⟩ := hT.form2
  obtain ⟨kd', nn', u', s', A1', m1', c1', A2', m2', c2', rfl, rfl, rfl, rfl, rfl, rfl⟩ := hN.form2
  have HN := Lib.hid hN
  have e : putD T [] N = (N, true) := by cases T; rw [putD]
  rw [e, List.length_nil]
  clear hT hN hp e
  go_enter Tryz.func60, Tryz.ntmps60
  go_wp2_with fail
  (refine bodyPost_ret (v := .tuple #[.agg #[.int .i64 kd', .int .i64 nn', .int .u64 u', .string s', .slice A1' m1' c1', .slice A2' m2' c2'], .bool true]) (by simp [results, Tryz.results60, go_sem, *]) rfl ?_)
  exact put_fin HN.out _ zw
theorem NReps.join {w : World} : ∀ {l l' : List DT} {xs xs' : List Value} {bs bs' : List Nat}, NReps w l xs bs → NReps w l' xs' bs' → NReps w (l ++ l') (xs ++ xs') (bs ++ bs')
  | [], l', xs, xs', bs, bs', h, h' => by
    rw [NReps] at h
    obtain ⟨rfl, rfl⟩ := h
    exact h'
  | t :: ts, l', xs, xs', bs, bs', h, h' => by
    rw [NReps] at h
    obtain ⟨c, b, x1, b1, h1, h2, rfl, rfl⟩ := h
    rw [List.cons_append, NReps]
    exact ⟨c, b, x1 ++ xs', b1 ++ bs', h1, NReps.join h2 h', by simp, by simp⟩
theorem NReps.set_ {w : World} {l : List DT} {xs : List Value} {bs : List Nat} (h : NReps w l xs bs) {i : Nat} (hi : i < l.length) : ∃ xs1 xs2 v0 v1 v2 v3 v4 v5, xs = xs1 ++ ([v0, v1, v2, v3, v4, v5] ++ xs2) ∧ xs1.length = i * 6 ∧
    ∀ (w' : World) (T : DT) (c : List Value) (b : List Nat), Below w.heap.size w w' → NRep w' T c b → ∃ bs', NReps w' (l.set i T) ((xs1 ++ c) ++ xs2) bs' ∧ ∀ k ∈ bs', k ∈ bs ∨ k ∈ b := by
  have e : l = l.take i ++ (l[i] :: l.drop (i + 1)) := by rw [← List.drop_eq_getElem_cons hi, List.take_append_drop]
  rw [e] at h
  obtain ⟨x1, x2, b1, b2, h1, h2, rfl, rfl⟩ := NReps.split _ _ _ _ h
  rw [NReps] at h2
  obtain ⟨c0, b0, x3, b3, h3, h4, rfl, rfl⟩ := h2
  obtain ⟨kd, n, u, s, kv, lv, rfl⟩ := h3.form
  have hl1 : x1.length = i * 6 := by
    have := NReps.len _ _ _ h1
    rw [this, List.length_take]
    omega
  refine ⟨x1, x3, _, _, _, _, _, _, rfl, hl1, fun w' T c b hb hT => ?_⟩
  have h1' := h1.below hb
  have h4' := h4.below hb
  have hs := NReps.snoc _ _ _ _ _ _ h1' hT
  have es : l.set i T = (l.take i ++ [T]) ++ l.drop (i + 1) := by
    rw [List.set_eq_take_append_cons_drop, if_pos hi]
    simp
  rw [es]
  refine ⟨_, NReps.join hs h4', fun k hk => ?_⟩
  simp only [List.mem_append] at hk ⊢
  rcases hk with (hk | hk) | hk
  · exact .inl (.inl hk)
  · exact .inr hk
  · exact .inl (.inr (.inr hk))
/-- A node of a tree in a new block. -/
def SubN (bk bs' : List Nat) (W wx : World) (Z : Nat) (T : DT) : Prop := ∃ z0 z1 z2 z3 z4 z5 b, Below W.heap.size W wx ∧ W.heap.size ≤ Z ∧ wx.heap[Z]? = some (.cells #[z0, z1, z2, z3, z4, z5] 38 (0, 0)) ∧ NRep wx T [z0, z1, z2, z3, z4, z5] b ∧ ∀ i ∈ b, i ∈ bk ∨ i ∈ bs' ∨ W.heap.size ≤ i
theorem subN_a {bk bs' b : List Nat} {W w1 : World} {T : DT} {v0 v1 v2 v3 v4 v5 : Value} (hb : Below W.drew.heap.size W.drew w1) (hn : NRep w1 T [v0, v1, v2, v3, v4, v5] b) (hi : ∀ i ∈ b, i ∈ bk ∨ i ∈ bs' ∨ W.drew.heap.size ≤ i) :
    SubN bk bs' W (w1.alloc (.cells #[v0, v1, v2, v3, v4, v5] 38)) w1.heap.size T := by
  simp only [World.size_drew] at hb hi
  exact ⟨_, _, _, _, _, _, b, ((Below.refl _ W).drew.trans hb).alloc hb.size _, hb.size, heap_alloc_new _ _, hn.below ((Below.refl _ _).alloc (Nat.le_refl _) _), hi⟩
theorem subN_b {bk bs' b : List Nat} {W w1 : World} {T : DT} {a0 a1 a2 a3 a4 a5 v0 v1 v2 v3 v4 v5 : Value} (h1 : ∀ i ∈ bk, i < W.heap.size) (h2 : ∀ i ∈ bs', i < W.heap.size) (hb : Below (W.alloc (.cells #[a0, a1, a2, a3, a4, a5] 38)).drew.heap.size (W.alloc (.cells #[a0, a1, a2, a3, a4, a5] 38)).drew w1) (hn : NRep w1 T [v0, v1, v2, v3, v4, v5] b) (hi : ∀ i ∈ b, i ∈ bk ∨ i ∈ bs' ∨ (W.alloc (.cells #[a0, a1, a2, a3, a4, a5] 38)).drew.heap.size ≤ i) :
    SubN bk bs' W ((((((w1.setCell ⟨W.heap.size, 0, none⟩ v0).setCell ⟨W.heap.size, 1, none⟩ v1).setCell ⟨W.heap.size, 2, none⟩ v2).setCell ⟨W.heap.size, 3, none⟩ v3).setCell ⟨W.heap.size, 4, none⟩ v4).setCell ⟨W.heap.size, 5, none⟩ v5) W.heap.size T := by
  simp only [World.size_drew, World.size_alloc] at hb hi
  have hz := hb.size
  simp only [World.size_drew, World.size_alloc] at hz
  have hrow : w1.heap[W.heap.size]? = some (.cells #[a0, a1, a2, a3, a4, a5] 38 (0, 0)) := (hb.block W.heap.size (by omega)).trans (heap_alloc_new W _)
  have hb0 : Below W.heap.size W w1 := (((Below.refl W.heap.size W).alloc (Nat.le_refl _) _).drew).trans (hb.mono (by omega))
  refine ⟨_, _, _, _, _, _, b, below_six hb0 (Nat.le_refl _) _ _ _ _ _ _, Nat.le_refl _, row6_set hrow _ _ _ _ _ _, hn.same _ _ _ fun i hb' => ?_, fun i hb' => ?_⟩
  · refine (touch6 (Y := W.heap.size) v0 v1 v2 v3 v4 v5).block i (hn.bd _ _ _ i hb') ?_
    have := hi i hb'
    simp only [List.mem_singleton]
    rintro rfl
    rcases this with h | h | h
    · exact absurd (h1 _ h) (by omega)
    · exact absurd (h2 _ h) (by omega)
    · omega
  · rcases hi i hb' with h | h | h
    · exact .inl h
    · exact .inr (.inl h)
    · exact .inr (.inr (by omega))
set_option maxRecDepth 100000 in
set_option maxHeartbeats 16000000 in
theorem put_cons (key : List UInt8) (at_ : Int) (by_ : Bool) (r : List PS) (ih : PutC r) : PutC ((key, at_, by_) :: r) := by
  intro T N w x0 x1 x2 x3 x4 x5 y0 y1 y2 y3 y4 y5 bs bs' A c hT hN hsm hp hpc
  obtain ⟨akd, ann, au, ast, aks, al⟩ := T
  obtain ⟨kd', nn', u', s', A1', m1', c1', A2', m2', c2', rfl, rfl, rfl, rfl, rfl, rfl⟩ := hN.form2
  have hR := NRep.reads _ _ _ hT
  have hT2 := hT
  rw [NRep] at hT2
  obtain ⟨kv, lv, xs, bl, hcs, hown1, hown2, hkids, hbs⟩ := hT2
  have HBS := Lib.hid hbs
  clear hbs
  obtain ⟨A1, c1, rfl, -⟩ := slice_form hown1
  obtain ⟨A2, c2, rfl, -⟩ := slice_form hown2
  simp only [nodeC, List.cons.injEq, and_true] at hcs
  obtain ⟨rfl, rfl, rfl, rfl, rfl, rfl⟩ := hcs
  obtain ⟨bp, op, rfl, hpb, -, s0, s1, s2⟩ := hp.at_ (Below.refl _ _) 0 (by simp)
  simp only [List.getElem_cons_zero, Nat.zero_mul, Nat.add_zero] at s0 s1 s2
  obtain ⟨A', c', hc', htail, hsl⟩ := step_tail hp hpc
  have HSL := Lib.hid hsl
  have HTL := Lib.hid htail
  have HNN := Lib.hid hN
  have HIH := Lib.hid ih
  have HL := Lib.hid (fun (V : World) (hV : Below w.heap.size w V) => leads_any akd ann au ast aks al key at_ by_ V _ _ _ _ _ _ (RRep.below hV _ _ hR))
  have hlb := leadsD_bd (.mk akd ann au ast aks al) (key, at_, by_)
  have HO1 := Lib.hid hown1
  have HO2 := Lib.hid hown2
  have HKD := Lib.hid hkids
  have HSM := Lib.hid hsm
  unfold strV at HL ⊢
  obtain ⟨res, hres⟩ : ∃ res, res = putD (.mk akd ann au ast aks al) ((key, at_, by_) :: r) N := ⟨_, rfl⟩
  rw [← hres]
  rw [putD] at hres
  generalize hld : leadsD (.mk akd ann au ast aks al) (key, at_, by_) = ld at *
  obtain ⟨n, hn⟩ : ∃ n, n = ((key, at_, by_) :: r).length := ⟨_, rfl⟩
  rw [← hn] at hpc HSL ⊢
  have hnr : n = r.length + 1 := hn
  have HNR := Lib.hid hnr
  have hn0 : 0 < n := by omega
  have hnz : ((n : Int) == 0) = false := by simp; omega
  obtain ⟨q, hq⟩ : ∃ q, q = al.length := ⟨_, rfl⟩
  rw [← hq] at HL HO2 ⊢
  have HQ := Lib.hid hq
  generalize aks.length = qk at *
  clear hT hN hsm hp hR hown1 hown2 hkids hsl htail ih hld hn hnr hq
  go_enter Tryz.func60, Tryz.ntmps60
  go_upto_region 3 with fail
  refine wp_named (fun wn => Below w.heap.size w wn ∧ w.heap.size + 1 + 1 < wn.heap.size ∧ wn.heap[w.heap.size]? = some (.cells #[.int .i64 akd, .int .i64 ann, .int .u64 au, .string ⟨ast.toArray⟩, .slice A1 qk c1, .slice A2 q c2] 38 (0, 0)) ∧ wn.heap[w.heap.size + 1]? = some (.cells #[.int .i64 kd', .int .i64 nn', .int .u64 u', .string s', .slice A1' m1' c1', .slice A2' m2' c2'] 38 (0, 0)) ∧ wn.heap[w.heap.size + 1 + 1]? = some (.cells #[.int .i64 0, .int .i64 0, .int .u64 0, .string ⟨#[]⟩, .slice none 0 0, .slice none 0 0] 38 (0, 0))) ⟨by exact zw, by simp, ?_, ?_, ?_⟩ ?_
  · exact (Below.heap_alloc _ _ _ (by simp; omega)).trans ((Below.heap_alloc _ _ _ (by simp)).trans (heap_alloc_new _ _))
  · have := heap_alloc_new (w.alloc (.cells #[.int .i64 akd, .int .i64 ann, .int .u64 au, .string ⟨ast.toArray⟩, .slice A1 qk c1, .slice A2 q c2] 38)) (.cells #[.int .i64 kd', .int .i64 nn', .int .u64 u', .string s', .slice A1' m1' c1', .slice A2' m2' c2'] 38)
    rw [World.size_alloc] at this
    exact (Below.heap_alloc _ _ _ (by simp)).trans this
  · have := heap_alloc_new ((w.alloc (.cells #[.int .i64 akd, .int .i64 ann, .int .u64 au, .string ⟨ast.toArray⟩, .slice A1 qk c1, .slice A2 q c2] 38)).alloc (.cells #[.int .i64 kd', .int .i64 nn', .int .u64 u', .string s', .slice A1' m1' c1', .slice A2' m2' c2'] 38)) (.cells #[.int .i64 0, .int .i64 0, .int .u64 0, .string ⟨#[]⟩, .slice none 0 0, .slice none 0 0] 38)
    rw [World.size_alloc, World.size_alloc] at this
    exact this
  rintro wn ⟨hbn, hzn, hXn, hVn, hYn⟩
  obtain ⟨z0, z1, z2, z3, z4, z5⟩ := cells6 hXn
  have gX : w.heap.size < wn.heap.size := by omega
  have gP : bp < wn.heap.size := by omega
  have t0 := (hbn.cell (p := ⟨bp, op, none⟩) hpb).trans s0
  have t1 := (hbn.cell (p := ⟨bp, op + 1, none⟩) hpb).trans s1
  have t2 := (hbn.cell (p := ⟨bp, op + 2, none⟩) hpb).trans s2
  have HBn := Lib.hid hbn
  have HXn := Lib.hid hXn
  have HVn := Lib.hid hVn
  have HYn := Lib.hid hYn
  clear hbn hXn hVn hYn
  go_cut [8] (fun s8 wx => s8 = .int .i64 ld ∧ Below wn.heap.size wn wx)
  case first =>
    go_region_held3 (fun w' => w'.cell? ⟨w.heap.size, 0, none⟩ = some (.int .i64 akd) ∧ w'.cell? ⟨w.heap.size, 1, none⟩ = some (.int .i64 ann) ∧ w'.cell? ⟨w.heap.size, 2, none⟩ = some (.int .u64 au) ∧ w'.cell? ⟨w.heap.size, 3, none⟩ = some (.string ⟨ast.toArray⟩) ∧ w'.cell? ⟨w.heap.size, 4, none⟩ = some (.slice A1 qk c1) ∧ w'.cell? ⟨w.heap.size, 5, none⟩ = some (.slice A2 q c2) ∧ w'.cell? ⟨bp, op, none⟩ = some (.string ⟨key.toArray⟩) ∧ w'.cell? ⟨bp, op + 1, none⟩ = some (.int .i64 at_) ∧ w'.cell? ⟨bp, op + 2, none⟩ = some (.bool by_)) (first | (with_reducible exact ⟨z0, z1, z2, z3, z4, z5, t0, t1, t2⟩) | (with_reducible exact kS) | go_keep) ((go_at_call 55; refine (HL.out _ (HBn.out.trans ((by first | exact zb0 _ _ | exact zb2 (zb0 _ _) | exact zb3 (zb0 _ _) _ : Below wn.heap.size wn _).mono (Nat.le_of_lt gX)))).mono ?_; rintro e w1 ⟨rfl, hb1⟩; obtain ⟨hc1, hf1, hl1⟩ := bcell hb1; (try simp only [zdz] at hc1 hf1 hl1); have kS : w1.cell? ⟨w.heap.size, 0, none⟩ = some (.int .i64 akd) ∧ w1.cell? ⟨w.heap.size, 1, none⟩ = some (.int .i64 ann) ∧ w1.cell? ⟨w.heap.size, 2, none⟩ = some (.int .u64 au) ∧ w1.cell? ⟨w.heap.size, 3, none⟩ = some (.string ⟨ast.toArray⟩) ∧ w1.cell? ⟨w.heap.size, 4, none⟩ = some (.slice A1 qk c1) ∧ w1.cell? ⟨w.heap.size, 5, none⟩ = some (.slice A2 q c2) ∧ w1.cell? ⟨bp, op, none⟩ = some (.string ⟨key.toArray⟩) ∧ w1.cell? ⟨bp, op + 1, none⟩ = some (.int .i64 at_) ∧ w1.cell? ⟨bp, op + 2, none⟩ = some (.bool by_) := ⟨(hc1 _ _ gX).trans z0, (hc1 _ _ gX).trans z1, (hc1 _ _ gX).trans z2, (hc1 _ _ gX).trans z3, (hc1 _ _ gX).trans z4, (hc1 _ _ gX).trans z5, (hc1 _ _ gP).trans t0, (hc1 _ _ gP).trans t1, (hc1 _ _ gP).trans t2⟩))
    all_goals (go_wp2_with fail; go_meet)
    all_goals exact ⟨rfl, (zb2 (zb0 _ _)).trans hb1⟩
  case rest =>
  obtain ⟨rfl, hbc⟩ := hcut
  go_upto_region 4 with fail
  refine wp_named (fun W => Below w.heap.size w W ∧ w.heap.size + 1 + 1 < W.heap.size ∧ W.heap[w.heap.size]? = some (.cells #[.int .i64 akd, .int .i64 ann, .int .u64 au, .string ⟨ast.toArray⟩, .slice A1 qk c1, .slice A2 q c2] 38 (0, 0)) ∧ W.heap[w.heap.size + 1]? = some (.cells #[.int .i64 kd', .int .i64 nn', .int .u64 u', .string s', .slice A1' m1' c1', .slice A2' m2' c2'] 38 (0, 0)) ∧ W.heap[w.heap.size + 1 + 1]? = some (.cells #[.int .i64 0, .int .i64 0, .int .u64 0, .string ⟨#[]⟩, .slice none 0 0, .slice none 0 0] 38 (0, 0))) ⟨HBn.out.trans (hbc.mono (Nat.le_of_lt gX)), Nat.lt_of_lt_of_le hzn hbc.size, below_row HXn.out hbc, below_row HVn.out hbc, below_row HYn.out hbc⟩ ?_
  clear z0 z1 z2 z3 z4 z5 t0 t1 t2 s0 s1 s2 HBn HXn HVn HYn hbc HL
  rintro W ⟨hbw, hzw, hXw, hVw, hYw⟩
  rcases hlb with rfl | ⟨hl0, hll⟩
  · rw [if_pos (by omega)] at hres
    obtain ⟨y0, y1, y2, y3, y4, y5⟩ := cells6 hYw
    have fy0 : W.frozen? ⟨w.heap.size + 1 + 1, 0, none⟩ = false := frozen_of_row _ _ _ _ _ hYw
    have fy1 : W.frozen? ⟨w.heap.size + 1 + 1, 1, none⟩ = false := frozen_of_row _ _ _ _ _ hYw
    have fy2 : W.frozen? ⟨w.heap.size + 1 + 1, 2, none⟩ = false := frozen_of_row _ _ _ _ _ hYw
    have fy3 : W.frozen? ⟨w.heap.size + 1 + 1, 3, none⟩ = false := frozen_of_row _ _ _ _ _ hYw
    have fy4 : W.frozen? ⟨w.heap.size + 1 + 1, 4, none⟩ = false := frozen_of_row _ _ _ _ _ hYw
    have fy5 : W.frozen? ⟨w.heap.size + 1 + 1, 5, none⟩ = false := frozen_of_row _ _ _ _ _ hYw
    have HB := Lib.hid hbw
    subst hres
    clear hXw hVw hYw hbw
    go_wp2_with fail
    (refine bodyPost_ret (v := .tuple #[.agg #[.int .i64 0, .int .i64 0, .int .u64 0, .string ⟨#[]⟩, .slice none 0 0, .slice none 0 0], .bool false]) (by simp [results, Tryz.results60, go_sem, *]) rfl ?_)
    exact ⟨⟨_, _, _, _, _, _, [], rfl, nrep_zero _, by simp⟩, below_six HB.out (by omega) _ _ _ _ _ _⟩
  · rw [if_neg (by omega)] at hres
    obtain ⟨j, hj⟩ : ∃ j : Nat, ld = (j : Int) := ⟨ld.toNat, by omega⟩
    subst hj
    rw [Int.toNat_natCast] at hll hres
    have hjl : j < al.length := hll
    have hkd : al.getD j (.mk 0 0 0 [] [] []) = al[j] := by
      rw [List.getD_eq_getElem?_getD, List.getElem?_eq_getElem hjl]
      rfl
    rw [hkd] at hres
    have hown2 : w.ownsRow 0 38 6 (.slice A2 al.length c2) al.length xs := by
      have e := HQ.out
      have := HO2.out
      rw [e] at this
      exact this
    obtain ⟨bk, hA2, hkb, -⟩ := row_cell hown2 (by omega)
    subst hA2
    obtain ⟨bk2, hbk2, hkb2, v0, v1, v2, v3, v4, v5, bkid, hkid, hkidb, p0, p1, p2, p3, p4, p5⟩ := kid_cells (own_below hown2 hbw) (HKD.out.below hbw) j hjl
    injection hbk2 with hbk2
    injection hbk2 with hbk2
    subst hbk2
    obtain ⟨kd3, nn3, uu3, s3, A3, m3, c3, A4, m4, c4, rfl, rfl, rfl, rfl, rfl, rfl⟩ := hkid.form2
    have hsmk := RRep.smallKid HSM.out hjl
    have HI2 := Lib.hid (fun (V : World) (hV : Below W.heap.size W V) => HIH.out al[j] N V _ _ _ _ _ _ _ _ _ _ _ _ bkid bs' A' c' (hkid.below hV) ((HNN.out.below hbw).below hV) hsmk (Rd.below HTL.out (hbw.trans (hV.mono hbw.size))) hc')
    obtain ⟨res2, hres2⟩ : ∃ z, z = putD al[j] r N := ⟨_, rfl⟩
    rw [← hres2] at HI2 hres
    have hbs' : ∀ i ∈ bkid, i < W.heap.size := hkid.bd _ _ _
    have hNb : ∀ i ∈ bs', i < W.heap.size := fun i hi => Nat.lt_of_lt_of_le (HNN.out.bd _ _ _ i hi) hbw.size
    have HBD := Lib.hid (And.intro hbs' (And.intro hNb hkidb))
    obtain ⟨x0, x1, x2, x3, x4, x5⟩ := cells6 hXw
    obtain ⟨t0, t1, t2, t3, t4, t5⟩ := cells6 hVw
    have gX : w.heap.size < W.heap.size := by omega
    have gV : w.heap.size + 1 < W.heap.size := by omega
    have gK : bk < W.heap.size := hkb2
    have e0 : (0 : Nat) + j * 6 = j * 6 := by omega
    have hjq : (j : Int) < (q : Int) := by have := HQ.out; omega
    have hsl := HSL.out
    have hn1 : (1 : Int) ≤ (n : Int) := by omega
    have HBW := Lib.hid hbw
    have HXW := Lib.hid hXw
    have HYW := Lib.hid hYw
    have HRES := Lib.hid hres
    have HJL := Lib.hid hjl
    have HO3 := Lib.hid hown2
    clear x0 x1 x2 x3 x4 hXw hVw hYw hbw hkid hown2 hkd hres hres2 hbs' hNb hkidb hsmk hll hjl
    go_upto_region 6 with fail
    go_cut [9, 10] (fun s9 s10 wx => ∃ Z, s9 = .pointer (some ⟨Z, 0, none⟩) ∧ s10 = .bool res2.2 ∧ SubN bkid bs' W wx Z res2.1)
    case first =>
      go_region_held3 (fun w' => w'.cell? ⟨w.heap.size, 5, none⟩ = some (.slice (some ⟨bk, 0, none⟩) q c2) ∧ w'.cell? ⟨bk, j * 6, none⟩ = some (.int .i64 kd3) ∧ w'.cell? ⟨bk, j * 6 + 1, none⟩ = some (.int .i64 nn3) ∧ w'.cell? ⟨bk, j * 6 + 2, none⟩ = some (.int .u64 uu3) ∧ w'.cell? ⟨bk, j * 6 + 3, none⟩ = some (.string s3) ∧ w'.cell? ⟨bk, j * 6 + 4, none⟩ = some (.slice A3 m3 c3) ∧ w'.cell? ⟨bk, j * 6 + 5, none⟩ = some (.slice A4 m4 c4) ∧ w'.cell? ⟨w.heap.size + 1, 0, none⟩ = some (.int .i64 kd') ∧ w'.cell? ⟨w.heap.size + 1, 1, none⟩ = some (.int .i64 nn') ∧ w'.cell? ⟨w.heap.size + 1, 2, none⟩ = some (.int .u64 u') ∧ w'.cell? ⟨w.heap.size + 1, 3, none⟩ = some (.string s') ∧ w'.cell? ⟨w.heap.size + 1, 4, none⟩ = some (.slice A1' m1' c1') ∧ w'.cell? ⟨w.heap.size + 1, 5, none⟩ = some (.slice A2' m2' c2')) (first | (with_reducible exact ⟨x5, p0, p1, p2, p3, p4, p5, t0, t1, t2, t3, t4, t5⟩) | (with_reducible exact kS) | (with_reducible exact ⟨(set6_oth (by omega) _ _ _ _ _ _ _).trans kS.1, (set6_oth (by omega) _ _ _ _ _ _ _).trans kS.2.1, (set6_oth (by omega) _ _ _ _ _ _ _).trans kS.2.2.1, (set6_oth (by omega) _ _ _ _ _ _ _).trans kS.2.2.2.1, (set6_oth (by omega) _ _ _ _ _ _ _).trans kS.2.2.2.2.1, (set6_oth (by omega) _ _ _ _ _ _ _).trans kS.2.2.2.2.2.1, (set6_oth (by omega) _ _ _ _ _ _ _).trans kS.2.2.2.2.2.2.1, (set6_oth (by omega) _ _ _ _ _ _ _).trans kS.2.2.2.2.2.2.2.1, (set6_oth (by omega) _ _ _ _ _ _ _).trans kS.2.2.2.2.2.2.2.2.1, (set6_oth (by omega) _ _ _ _ _ _ _).trans kS.2.2.2.2.2.2.2.2.2.1, (set6_oth (by omega) _ _ _ _ _ _ _).trans kS.2.2.2.2.2.2.2.2.2.2.1, (set6_oth (by omega) _ _ _ _ _ _ _).trans kS.2.2.2.2.2.2.2.2.2.2.2.1, (set6_oth (by omega) _ _ _ _ _ _ _).trans kS.2.2.2.2.2.2.2.2.2.2.2.2⟩) | (with_reducible exact ⟨cell_al gX1 kS.1 _, cell_al gK1 kS.2.1 _, cell_al gK1 kS.2.2.1 _, cell_al gK1 kS.2.2.2.1 _, cell_al gK1 kS.2.2.2.2.1 _, cell_al gK1 kS.2.2.2.2.2.1 _, cell_al gK1 kS.2.2.2.2.2.2.1 _, cell_al gV1 kS.2.2.2.2.2.2.2.1 _, cell_al gV1 kS.2.2.2.2.2.2.2.2.1 _, cell_al gV1 kS.2.2.2.2.2.2.2.2.2.1 _, cell_al gV1 kS.2.2.2.2.2.2.2.2.2.2.1 _, cell_al gV1 kS.2.2.2.2.2.2.2.2.2.2.2.1 _, cell_al gV1 kS.2.2.2.2.2.2.2.2.2.2.2.2 _⟩) | go_keep) ((go_at_call 60; refine (HI2.out _ (by first | exact zb0 _ _ | exact zb2 (zb0 _ _) | exact zb3 (zb0 _ _) _ | exact zb1 (zb0 _ _) (by simp) _ | exact zb1 (zb2 (zb0 _ _)) (by simp) _ | exact zb2 (zb1 (zb0 _ _) (by simp) _))).mono ?_; rintro e w1 ⟨⟨r0, r1, r2, r3, r4, r5, bz, rfl, hrz, hbz⟩, hb1⟩; obtain ⟨kd9, nn9, uu9, s9, A8, m8, c8, A9, m9, c9, rfl, rfl, rfl, rfl, rfl, rfl⟩ := hrz.form2; obtain ⟨hc1, hf1, hl1⟩ := bcell hb1; (try simp only [zdz] at hc1 hf1 hl1); have hz1 := hb1.size; (try simp only [zsz] at hz1); have gX1 : w.heap.size < w1.heap.size := (by omega); have gV1 : w.heap.size + 1 < w1.heap.size := (by omega); have gK1 : bk < w1.heap.size := (by omega); have kS : w1.cell? ⟨w.heap.size, 5, none⟩ = some (.slice (some ⟨bk, 0, none⟩) q c2) ∧ w1.cell? ⟨bk, j * 6, none⟩ = some (.int .i64 kd3) ∧ w1.cell? ⟨bk, j * 6 + 1, none⟩ = some (.int .i64 nn3) ∧ w1.cell? ⟨bk, j * 6 + 2, none⟩ = some (.int .u64 uu3) ∧ w1.cell? ⟨bk, j * 6 + 3, none⟩ = some (.string s3) ∧ w1.cell? ⟨bk, j * 6 + 4, none⟩ = some (.slice A3 m3 c3) ∧ w1.cell? ⟨bk, j * 6 + 5, none⟩ = some (.slice A4 m4 c4) ∧ w1.cell? ⟨w.heap.size + 1, 0, none⟩ = some (.int .i64 kd') ∧ w1.cell? ⟨w.heap.size + 1, 1, none⟩ = some (.int .i64 nn') ∧ w1.cell? ⟨w.heap.size + 1, 2, none⟩ = some (.int .u64 u') ∧ w1.cell? ⟨w.heap.size + 1, 3, none⟩ = some (.string s') ∧ w1.cell? ⟨w.heap.size + 1, 4, none⟩ = some (.slice A1' m1' c1') ∧ w1.cell? ⟨w.heap.size + 1, 5, none⟩ = some (.slice A2' m2' c2') := ⟨(hc1 _ _ (by first | exact gX | exact lt_al gX _)).trans (by first | exact x5 | exact cell_al gX x5 _), (hc1 _ _ (by first | exact gK | exact lt_al gK _)).trans (by first | exact p0 | exact cell_al gK p0 _), (hc1 _ _ (by first | exact gK | exact lt_al gK _)).trans (by first | exact p1 | exact cell_al gK p1 _), (hc1 _ _ (by first | exact gK | exact lt_al gK _)).trans (by first | exact p2 | exact cell_al gK p2 _), (hc1 _ _ (by first | exact gK | exact lt_al gK _)).trans (by first | exact p3 | exact cell_al gK p3 _), (hc1 _ _ (by first | exact gK | exact lt_al gK _)).trans (by first | exact p4 | exact cell_al gK p4 _), (hc1 _ _ (by first | exact gK | exact lt_al gK _)).trans (by first | exact p5 | exact cell_al gK p5 _), (hc1 _ _ (by first | exact gV | exact lt_al gV _)).trans (by first | exact t0 | exact cell_al gV t0 _), (hc1 _ _ (by first | exact gV | exact lt_al gV _)).trans (by first | exact t1 | exact cell_al gV t1 _), (hc1 _ _ (by first | exact gV | exact lt_al gV _)).trans (by first | exact t2 | exact cell_al gV t2 _), (hc1 _ _ (by first | exact gV | exact lt_al gV _)).trans (by first | exact t3 | exact cell_al gV t3 _), (hc1 _ _ (by first | exact gV | exact lt_al gV _)).trans (by first | exact t4 | exact cell_al gV t4 _), (hc1 _ _ (by first | exact gV | exact lt_al gV _)).trans (by first | exact t5 | exact cell_al gV t5 _)⟩))
      all_goals (go_wp2_with fail; go_meet)
      all_goals first | (with_reducible exact ⟨_, rfl, rfl, subN_a hb1 hrz hbz⟩) | (with_reducible exact ⟨_, rfl, rfl, subN_b HBD.out.1 HBD.out.2.1 hb1 hrz hbz⟩)
    case rest =>
    obtain ⟨Z, rfl, rfl, hS⟩ := hcut
    go_upto_region 7 with fail
    refine wp_named (fun wx => SubN bkid bs' W wx Z res2.1) hS ?_
    clear hS HI2 hsl HSL x5 p0 p1 p2 p3 p4 p5 t0 t1 t2 t3 t4 t5
    rintro wx ⟨q0, q1, q2, q3, q4, q5, bz, hbx, hZl, hZr, hNz, hbz⟩
    obtain ⟨kd9, nn9, uu9, s9, A8, m8, c8, A9, m9, c9, rfl, rfl, rfl, rfl, rfl, rfl⟩ := hNz.form2
    have hbwx := HBW.out.trans (hbx.mono HBW.out.size)
    have hXx := below_row HXW.out hbx
    have hYx := below_row HYW.out hbx
    have x5 : wx.cell? ⟨w.heap.size, 5, none⟩ = some (.slice (some ⟨bk, 0, none⟩) q c2) := cell_of_row _ _ _ _ _ _ hXx
    have gX2 : w.heap.size < wx.heap.size := (Array.getElem?_eq_some_iff.1 hXx).1
    have gZ2 : Z < wx.heap.size := (Array.getElem?_eq_some_iff.1 hZr).1
    have gY2 : w.heap.size + 1 + 1 < wx.heap.size := (Array.getElem?_eq_some_iff.1 hYx).1
    have hql : q ≤ 1048576 := by
      have h := HSM.out
      rw [SmallD] at h
      have := HQ.out
      omega
    have HCL := Lib.hid (clone_nodes q xs (some ⟨bk, 0, none⟩) c2 wx (by have := (Rd.of_owns HO3.out).below hbwx; rw [← HQ.out] at this; exact this) (NReps.one _ _ _ HKD.out) hql)
    have HXX := Lib.hid hXx
    have HYX := Lib.hid hYx
    have HZX := Lib.hid hZr
    have HNZ := Lib.hid hNz
    have HBZ := Lib.hid hbz
    have HBX := Lib.hid hbwx
    have hWx := hbx.size
    clear hXx hYx hZr hNz hbz hbwx hbx HXW HYW
    go_wp2_with fail
    refine HCL.out.mono ?_
    clear HCL
    rintro e w1 ⟨⟨vc, rfl, hoc⟩, hb1⟩
    obtain ⟨Ag, cg, rfl⟩ := owns_ptr hoc
    have hq0 : 0 < q := by omega
    obtain ⟨g, hAg, hgb, -, hgl⟩ := row_block hoc hq0
    subst hAg
    have hgw := (hoc.lt g (mem_blk.1 hgb)).1
    have hX1 := below_row HXX.out hb1
    have y5 : w1.cell? ⟨w.heap.size, 5, none⟩ = some (.slice (some ⟨bk, 0, none⟩) q c2) := cell_of_row _ _ _ _ _ _ hX1
    have f5 : w1.frozen? ⟨w.heap.size, 5, none⟩ = false := frozen_of_row _ _ _ _ _ hX1
    have gX3 : w.heap.size < w1.heap.size := (Array.getElem?_eq_some_iff.1 hX1).1
    have HX1 := Lib.hid hX1
    have HB1 := Lib.hid hb1
    have HOC := Lib.hid hoc
    clear hX1 hb1 hoc hgb x5
    go_upto_region 8 with fail
    refine wp_named (fun V => Below w.heap.size w V ∧ wx.heap.size ≤ V.heap.size ∧ V.heap[w.heap.size]? = some (.cells #[.int .i64 akd, .int .i64 ann, .int .u64 au, .string ⟨ast.toArray⟩, .slice A1 qk c1, .slice (some ⟨g, 0, none⟩) q cg] 38 (0, 0)) ∧ V.heap[w.heap.size + 1 + 1]? = some (.cells #[.int .i64 0, .int .i64 0, .int .u64 0, .string ⟨#[]⟩, .slice none 0 0, .slice none 0 0] 38 (0, 0)) ∧ V.heap[Z]? = some (.cells #[.int .i64 kd9, .int .i64 nn9, .int .u64 uu9, .string s9, .slice A8 m8 c8, .slice A9 m9 c9] 38 (0, 0)) ∧ g < V.heap.size ∧ V.ownsRow 0 38 6 (.slice (some ⟨g, 0, none⟩) q cg) q xs ∧ NRep V res2.1 [.int .i64 kd9, .int .i64 nn9, .int .u64 uu9, .string s9, .slice A8 m8 c8, .slice A9 m9 c9] bz) ?_ ?_
    · have hzX : ∀ i ∈ bz, i ≠ w.heap.size := fun i hi => by
        rcases HBZ.out i hi with h | h | h
        · have := NReps.bd _ _ _ HKD.out i (HBD.out.2.2 i h)
          omega
        · have := HNN.out.bd _ _ _ i h
          omega
        · omega
      refine ⟨(HBX.out.trans (HB1.out.mono HBX.out.size)).setCell (p := ⟨w.heap.size, 5, none⟩) (Nat.le_refl _) _, by rw [World.size_setCell]; exact HB1.out.size, heap_setCell_same w1 _ 5 _ _ _ HX1.out, (heap_setCell_other _ _ _ _ (by show w.heap.size + 1 + 1 ≠ w.heap.size; omega)).trans (below_row HYX.out HB1.out), (heap_setCell_other _ _ _ _ (by show Z ≠ w.heap.size; omega)).trans (below_row HZX.out HB1.out), by rw [World.size_setCell]; exact hgl, ?_, ?_⟩
      · have h0 : w1.ownsRow 0 38 6 (.slice (some ⟨g, 0, none⟩) q cg) q xs := by
          refine ⟨HOC.out.1, ?_⟩
          rcases HOC.out.2 with hn | ⟨g', c', cur, h1, h2, rest⟩
          · exact .inl hn
          · exact .inr ⟨g', c', cur, h1, Nat.zero_le _, rest⟩
        refine own_same2 h0 fun i hi => heap_setCell_other _ _ _ _ ?_
        have : i = g := by simpa [blkL, Value.ownBlock] using hi
        show i ≠ w.heap.size
        omega
      · refine (HNZ.out.below HB1.out).same _ _ _ fun i hi => heap_setCell_other _ _ _ _ ?_
        exact hzX i hi
    have hbzb : ∀ i ∈ bz, (i < w.heap.size ∨ W.heap.size ≤ i) ∧ i < wx.heap.size := fun i hi => by
      refine ⟨?_, HNZ.out.bd _ _ _ i hi⟩
      rcases HBZ.out i hi with h | h | h
      · exact .inl (NReps.bd _ _ _ HKD.out i (HBD.out.2.2 i h))
      · exact .inl (HNN.out.bd _ _ _ i h)
      · exact .inr h
    have HZB := Lib.hid hbzb
    clear y5 f5 HX1 HB1 HOC HXX HYX HZX HNZ gX3 hgl hbzb
    rintro V ⟨hbv, hzv, hXv, hYv, hZv, hgv, hov, hnv⟩
    obtain ⟨xs1, xs2, v0, v1, v2, v3, v4, v5, hxs, hxl, hset⟩ := NReps.set_ HKD.out HJL.out
    have hcg : ∀ i, i < 6 → ∀ u, ([v0, v1, v2, v3, v4, v5] : List Value)[i]? = some u → V.cell? ⟨g, j * 6 + i, none⟩ = some u := by
      intro i hi u hu
      rw [hov.cellAt (j * 6 + i) (by omega), hxs, List.getElem?_append_right (by omega), List.getElem?_append_left (by simp; omega)]
      rw [show j * 6 + i - xs1.length = i by omega]
      exact hu
    have cg0 : V.cell? ⟨g, j * 6, none⟩ = some v0 := hcg 0 (by omega) _ rfl
    have cg1 : V.cell? ⟨g, j * 6 + 1, none⟩ = some v1 := hcg 1 (by omega) _ rfl
    have cg2 : V.cell? ⟨g, j * 6 + 2, none⟩ = some v2 := hcg 2 (by omega) _ rfl
    have cg3 : V.cell? ⟨g, j * 6 + 3, none⟩ = some v3 := hcg 3 (by omega) _ rfl
    have cg4 : V.cell? ⟨g, j * 6 + 4, none⟩ = some v4 := hcg 4 (by omega) _ rfl
    have cg5 : V.cell? ⟨g, j * 6 + 5, none⟩ = some v5 := hcg 5 (by omega) _ rfl
    have fg0 : V.frozen? ⟨g, j * 6, none⟩ = false := hov.frozenAt _
    have fg1 : V.frozen? ⟨g, j * 6 + 1, none⟩ = false := hov.frozenAt _
    have fg2 : V.frozen? ⟨g, j * 6 + 2, none⟩ = false := hov.frozenAt _
    have fg3 : V.frozen? ⟨g, j * 6 + 3, none⟩ = false := hov.frozenAt _
    have fg4 : V.frozen? ⟨g, j * 6 + 4, none⟩ = false := hov.frozenAt _
    have fg5 : V.frozen? ⟨g, j * 6 + 5, none⟩ = false := hov.frozenAt _
    obtain ⟨z0, z1, z2, z3, z4, z5⟩ := cells6 hZv
    have x5 : V.cell? ⟨w.heap.size, 5, none⟩ = some (.slice (some ⟨g, 0, none⟩) q cg) := cell_of_row _ _ _ _ _ _ hXv
    have gXv : w.heap.size < V.heap.size := (Array.getElem?_eq_some_iff.1 hXv).1
    have gZv : Z < V.heap.size := (Array.getElem?_eq_some_iff.1 hZv).1
    have hgZ : g ≠ Z := by omega
    have hgX : g ≠ w.heap.size := by omega
    have HBV := Lib.hid hbv
    have HXV := Lib.hid hXv
    have HYV := Lib.hid hYv
    have HOV := Lib.hid hov
    have HNV := Lib.hid hnv
    have HSET := Lib.hid hset
    have HXS := Lib.hid (And.intro hxs hxl)
    clear hcg hbv hXv hYv hZv hov hnv hset hxs hxl
    go_upto_region 9 with fail
    refine wp_named (fun U => Below w.heap.size w U ∧ U.heap[w.heap.size]? = some (.cells #[.int .i64 akd, .int .i64 ann, .int .u64 au, .string ⟨ast.toArray⟩, .slice A1 qk c1, .slice (some ⟨g, 0, none⟩) q cg] 38 (0, 0)) ∧ U.heap[w.heap.size + 1 + 1]? = some (.cells #[.int .i64 0, .int .i64 0, .int .u64 0, .string ⟨#[]⟩, .slice none 0 0, .slice none 0 0] 38 (0, 0)) ∧ U.ownsRow 0 38 6 (.slice (some ⟨g, 0, none⟩) q cg) q ((xs1 ++ [.int .i64 kd9, .int .i64 nn9, .int .u64 uu9, .string s9, .slice A8 m8 c8, .slice A9 m9 c9]) ++ xs2) ∧ NRep U res2.1 [.int .i64 kd9, .int .i64 nn9, .int .u64 uu9, .string s9, .slice A8 m8 c8, .slice A9 m9 c9] bz) ?_ ?_
    · have hoth : ∀ i, i < V.heap.size → i ≠ g → ((((((V.setCell ⟨g, j * 6, none⟩ (.int .i64 kd9)).setCell ⟨g, j * 6 + 1, none⟩ (.int .i64 nn9)).setCell ⟨g, j * 6 + 2, none⟩ (.int .u64 uu9)).setCell ⟨g, j * 6 + 3, none⟩ (.string s9)).setCell ⟨g, j * 6 + 4, none⟩ (.slice A8 m8 c8)).setCell ⟨g, j * 6 + 5, none⟩ (.slice A9 m9 c9)).heap[i]? = V.heap[i]? := fun i hi hne => (touch_six (w := V) (g := g) _ _ _ _ _ _ _ _ _ _ _ _).block i hi (by simpa using hne)
      refine ⟨?_, (hoth _ gXv (fun h => hgX h.symm)).trans HXV.out, (hoth _ (by omega) (by omega)).trans HYV.out, ?_, HNV.out.same _ _ _ fun i hi => hoth i (HNV.out.bd _ _ _ i hi) (by have := HZB.out i hi; omega)⟩
      · exact (((((HBV.out.setCell (p := ⟨g, j * 6, none⟩) (by show w.heap.size ≤ g; omega) _).setCell (p := ⟨g, j * 6 + 1, none⟩) (by show w.heap.size ≤ g; omega) _).setCell (p := ⟨g, j * 6 + 2, none⟩) (by show w.heap.size ≤ g; omega) _).setCell (p := ⟨g, j * 6 + 3, none⟩) (by show w.heap.size ≤ g; omega) _).setCell (p := ⟨g, j * 6 + 4, none⟩) (by show w.heap.size ≤ g; omega) _).setCell (p := ⟨g, j * 6 + 5, none⟩) (by show w.heap.size ≤ g; omega) _
      · have := HOV.out
        rw [HXS.out.1] at this
        exact own_six this HXS.out.2 _ _ _ _ _ _
    clear cg0 cg1 cg2 cg3 cg4 cg5 fg0 fg1 fg2 fg3 fg4 fg5 z0 z1 z2 z3 z4 z5 x5 HXV HYV HOV HNV HBV
    rintro U ⟨hbu, hXu, hYu, hou, hnu⟩
    obtain ⟨bl2, hkids2, hbl2⟩ := HSET.out U res2.1 _ _ hbu hnu
    obtain ⟨y0, y1, y2, y3, y4, y5⟩ := cells6 hYu
    obtain ⟨x0, x1, x2, x3, x4, x5⟩ := cells6 hXu
    have fy0 : U.frozen? ⟨w.heap.size + 1 + 1, 0, none⟩ = false := frozen_of_row _ _ _ _ _ hYu
    have fy1 : U.frozen? ⟨w.heap.size + 1 + 1, 1, none⟩ = false := frozen_of_row _ _ _ _ _ hYu
    have fy2 : U.frozen? ⟨w.heap.size + 1 + 1, 2, none⟩ = false := frozen_of_row _ _ _ _ _ hYu
    have fy3 : U.frozen? ⟨w.heap.size + 1 + 1, 3, none⟩ = false := frozen_of_row _ _ _ _ _ hYu
    have fy4 : U.frozen? ⟨w.heap.size + 1 + 1, 4, none⟩ = false := frozen_of_row _ _ _ _ _ hYu
    have fy5 : U.frozen? ⟨w.heap.size + 1 + 1, 5, none⟩ = false := frozen_of_row _ _ _ _ _ hYu
    have gXu : w.heap.size < U.heap.size := (Array.getElem?_eq_some_iff.1 hXu).1
    have gYu : w.heap.size + 1 + 1 < U.heap.size := (Array.getElem?_eq_some_iff.1 hYu).1
    have hfin : NRep U (.mk akd ann au ast aks (al.set j res2.1)) [.int .i64 akd, .int .i64 ann, .int .u64 au, .string ⟨ast.toArray⟩, .slice A1 qk c1, .slice (some ⟨g, 0, none⟩) q cg] (blkL (.slice A1 qk c1) ++ (blkL (.slice (some ⟨g, 0, none⟩) q cg) ++ bl2)) := by
      have hqk : aks.length = qk := by
        have := HO1.out.1
        simpa using this
      rw [NRep]
      refine ⟨_, _, _, bl2, rfl, ?_, ?_, hkids2, rfl⟩
      · rw [hqk]
        exact own_below HO1.out hbu
      · rw [List.length_set, ← HQ.out]
        exact hou
    have hmem : ∀ i ∈ blkL (.slice A1 qk c1) ++ (blkL (.slice (some ⟨g, 0, none⟩) q cg) ++ bl2), (i ∈ bs ∨ i ∈ bs' ∨ w.heap.size ≤ i) ∧ i ≠ w.heap.size + 1 + 1 := by
      intro i hi
      simp only [List.mem_append] at hi
      rcases hi with hi | hi | hi
      · refine ⟨.inl (by rw [HBS.out]; simp [hi]), ?_⟩
        have := (HO1.out.lt i (mem_blk.1 hi)).2
        omega
      · have : i = g := by simpa [blkL, Value.ownBlock] using hi
        subst this
        exact ⟨.inr (.inr (by omega)), by omega⟩
      · rcases hbl2 i hi with h | h
        · refine ⟨.inl (by rw [HBS.out]; simp [h]), ?_⟩
          have := NReps.bd _ _ _ HKD.out i h
          omega
        · have h9 := (HZB.out i h).1
          refine ⟨?_, by omega⟩
          rcases HBZ.out i h with h | h | h
          · exact .inl (by rw [HBS.out]; simp [HBD.out.2.2 i h])
          · exact .inr (.inl h)
          · exact .inr (.inr (by omega))
    have HF := Lib.hid (And.intro hfin hmem)
    have HBU := Lib.hid hbu
    have hrr := HRES.out
    subst hrr
    clear hbu hXu hYu hou hnu hkids2 hbl2 hfin hmem HRES
    go_wp2_with fail
    (refine bodyPost_ret (v := .tuple #[.agg #[.int .i64 akd, .int .i64 ann, .int .u64 au, .string ⟨ast.toArray⟩, .slice A1 qk c1, .slice (some ⟨g, 0, none⟩) q cg], .bool res2.2]) (by simp [results, Tryz.results60, go_sem, *]) rfl ?_)
    refine ⟨⟨_, _, _, _, _, _, _, rfl, HF.out.1.same _ _ _ fun i hi => ?_, fun i hi => (HF.out.2 i hi).1⟩, below_six HBU.out (by omega) _ _ _ _ _ _⟩
    exact (touch6 (Y := w.heap.size + 1 + 1) _ _ _ _ _ _).block i (HF.out.1.bd _ _ _ i hi) (by simpa using (HF.out.2 i hi).2)
theorem pput_any : ∀ p, PutC p
  | [] => put_nil
  | (key, at_, by_) :: r => put_cons key at_ by_ r (pput_any r)
end
end
section
section
open Go.RowKit
theorem wf_zero : WfD zT := by
  unfold zT
  rw [WfD, WfDs]
  unfold in64 inU
  exact ⟨by omega, by omega, by omega, by simp, by simp, trivial⟩
theorem WfDs.set_ : ∀ {l : List DT} {j : Nat} {t : DT}, WfDs l → WfD t → WfDs (l.set j t)
  | [], _, _, h, _ => h
  | x :: r, 0, t, h, ht => by
    rw [WfDs] at h
    rw [List.set_cons_zero, WfDs]
    exact ⟨ht, h.2⟩
  | x :: r, j + 1, t, h, ht => by
    rw [WfDs] at h
    rw [List.set_cons_succ, WfDs]
    exact ⟨h.1, WfDs.set_ h.2 ht⟩
theorem WfDs.getD {l : List DT} (h : WfDs l) (j : Nat) : WfD (l.getD j (.mk 0 0 0 [] [] [])) := by
  rw [List.getD_eq_getElem?_getD]
  by_cases hj : j < l.length
  · rw [List.getElem?_eq_getElem hj]
    exact h.at_ _ (List.getElem_mem hj)
  · rw [List.getElem?_eq_none (by omega)]
    exact wf_zero
theorem putD_wf : ∀ (p : List PS) (T N : DT), WfD T → WfD N → WfD (putD T p N).1
  | [], T, N, hT, hN => by cases T; rw [putD]; exact hN
  | s :: r, .mk kd n u t ks l, N, hT, hN => by
    rw [putD]
    split
    · exact wf_zero
    · rw [WfD] at hT ⊢
      exact ⟨hT.1, hT.2.1, hT.2.2.1, hT.2.2.2.1, hT.2.2.2.2.1, WfDs.set_ hT.2.2.2.2.2 (putD_wf r _ N (WfDs.getD hT.2.2.2.2.2 _) hN)⟩
theorem small_zero : SmallD zT := by
  unfold zT
  rw [SmallD, SmallDs]
  simp
theorem SmallDs.set_ : ∀ {l : List DT} {j : Nat} {t : DT}, SmallDs l → SmallD t → SmallDs (l.set j t)
  | [], _, _, h, _ => h
  | x :: r, 0, t, h, ht => by
    rw [SmallDs] at h
    rw [List.set_cons_zero, SmallDs]
    exact ⟨ht, h.2⟩
  | x :: r, j + 1, t, h, ht => by
    rw [SmallDs] at h
    rw [List.set_cons_succ, SmallDs]
    exact ⟨h.1, SmallDs.set_ h.2 ht⟩
theorem SmallDs.getD {l : List DT} (h : SmallDs l) (j : Nat) : SmallD (l.getD j (.mk 0 0 0 [] [] [])) := by
  rw [List.getD_eq_getElem?_getD]
  by_cases hj : j < l.length
  · rw [List.getElem?_eq_getElem hj]
    exact h.at_ _ (List.getElem_mem hj)
  · rw [List.getElem?_eq_none (by omega)]
    exact small_zero
theorem putD_small : ∀ (p : List PS) (T N : DT), SmallD T → SmallD N → SmallD (putD T p N).1
  | [], T, N, hT, hN => by cases T; rw [putD]; exact hN
  | s :: r, .mk kd n u t ks l, N, hT, hN => by
    rw [putD]
    split
    · exact small_zero
    · rw [SmallD] at hT ⊢
      exact ⟨hT.1, by rw [List.length_set]; exact hT.2.1, SmallDs.set_ hT.2.2 (putD_small r _ N (SmallDs.getD hT.2.2 _) hN)⟩
theorem sizesD_set : ∀ (l : List DT) (j : Nat) (t : DT) (m : Int), sizeD t ≤ sizeD (l.getD j (.mk 0 0 0 [] [] [])) + m → 0 ≤ m → sizesD (l.set j t) ≤ sizesD l + m
  | [], j, t, m, _, hm => by rw [List.set_nil, sizesD]; omega
  | x :: r, 0, t, m, h, hm => by
    rw [List.set_cons_zero, sizesD, sizesD]
    rw [List.getD_cons_zero] at h
    omega
  | x :: r, j + 1, t, m, h, hm => by
    rw [List.set_cons_succ, sizesD, sizesD]
    rw [List.getD_cons_succ] at h
    have := sizesD_set r j t m h hm
    omega
theorem putD_size : ∀ (p : List PS) (T N : DT), sizeD (putD T p N).1 ≤ sizeD T + sizeD N
  | [], T, N => by
    have := sizeD_pos T
    cases T
    rw [putD]
    show sizeD N ≤ _
    omega
  | s :: r, .mk kd n u t ks l, N => by
    have hp := sizeD_pos N
    have hn := sizesD_nonneg l
    rw [putD]
    split
    · show sizeD zT ≤ _
      unfold zT
      rw [sizeD, sizeD, sizesD]
      omega
    · show sizeD (.mk kd n u t ks _) ≤ _
      rw [sizeD, sizeD]
      have := sizesD_set l _ _ (sizeD N) (putD_size r (l.getD (leadsD (.mk kd n u t ks l) s).toNat (.mk 0 0 0 [] [] [])) N) (by omega)
      omega
def setR (T : DT) (p : List PS) (N : DT) : DT × Int :=
  if (putD T p N).2 = false then (zT, 80) else if chkD (putD T p N).1 ≠ 0 then (zT, chkD (putD T p N).1) else ((putD T p N).1, 0)
set_option maxRecDepth 100000 in
set_option maxHeartbeats 8000000 in
theorem set_any (p : List PS) (T N : DT) (w : World) (x0 x1 x2 x3 x4 x5 y0 y1 y2 y3 y4 y5 : Value) (bs bs' : List Nat) (A : Option Addr) (c : Nat) (hT : NRep w T [x0, x1, x2, x3, x4, x5] bs) (hN : NRep w N [y0, y1, y2, y3, y4, y5] bs') (hsm : SmallD T) (hsn : SmallD N) (hw : WfD T) (hwn : WfD N) (hz : sizeD T + sizeD N ≤ 1048576) (hp : StepRd w (.slice A p.length c) p) (hpc : p.length ≤ c) :
    Calls Tryz.prog 26 #[.agg #[x0, x1, x2, x3, x4, x5], .slice A p.length c, .agg #[y0, y1, y2, y3, y4, y5]] w fun e w' => NodeErr w.heap.size (setR T p N) e w' ∧ Below w.heap.size w w' := by
  have HPU := Lib.hid (fun (W : World) (h : Below w.heap.size w W) => pput_any p T N W x0 x1 x2 x3 x4 x5 y0 y1 y2 y3 y4 y5 bs bs' A c (hT.below h) (hN.below h) hsm (Rd.below hp h) hpc)
  have HW := Lib.hid (putD_wf p T N hw hwn)
  have HS := Lib.hid (putD_small p T N hsm hsn)
  have HZ := Lib.hid (show sizeD (putD T p N).1 ≤ 1073741824 by have := putD_size p T N; omega)
  obtain ⟨kd, nn, u, s, A1, m1, c1, A2, m2, c2, rfl, rfl, rfl, rfl, rfl, rfl⟩ := hT.form2
  obtain ⟨kd', nn', u', s', A1', m1', c1', A2', m2', c2', rfl, rfl, rfl, rfl, rfl, rfl⟩ := hN.form2
  obtain ⟨res, hres⟩ : ∃ res, res = setR T p N := ⟨_, rfl⟩
  rw [← hres]
  unfold setR at hres
  generalize hpp : putD T p N = P at *
  obtain ⟨P, is⟩ := P
  dsimp only at hres HPU HW HS HZ
  generalize p.length = n at *
  clear hT hN hsm hsn hw hwn hz hp hpc hpp
  have HRES := Lib.hid hres
  clear hres
  go_enter Tryz.func26, Tryz.ntmps26
  go_upto_region 1 with fail
  refine wp_named (fun wn => Below w.heap.size w wn ∧ w.heap.size + 1 + 1 < wn.heap.size ∧ wn.heap[w.heap.size]? = some (.cells #[.int .i64 kd, .int .i64 nn, .int .u64 u, .string s, .slice A1 m1 c1, .slice A2 m2 c2] 38 (0, 0)) ∧ wn.heap[w.heap.size + 1]? = some (.cells #[.int .i64 kd', .int .i64 nn', .int .u64 u', .string s', .slice A1' m1' c1', .slice A2' m2' c2'] 38 (0, 0)) ∧ wn.heap[w.heap.size + 1 + 1]? = some (.cells #[.int .i64 0, .int .i64 0, .int .u64 0, .string ⟨#[]⟩, .slice none 0 0, .slice none 0 0] 38 (0, 0))) ⟨by exact zw, by simp, ?_, ?_, ?_⟩ ?_
  · exact (Below.heap_alloc _ _ _ (by simp; omega)).trans ((Below.heap_alloc _ _ _ (by simp)).trans (heap_alloc_new _ _))
  · have := heap_alloc_new (w.alloc (.cells #[.int .i64 kd, .int .i64 nn, .int .u64 u, .string s, .slice A1 m1 c1, .slice A2 m2 c2] 38)) (.cells #[.int .i64 kd', .int .i64 nn', .int .u64 u', .string s', .slice A1' m1' c1', .slice A2' m2' c2'] 38)
    rw [World.size_alloc] at this
    exact (Below.heap_alloc _ _ _ (by simp)).trans this
  · have := heap_alloc_new ((w.alloc (.cells #[.int .i64 kd, .int .i64 nn, .int .u64 u, .string s, .slice A1 m1 c1, .slice A2 m2 c2] 38)).alloc (.cells #[.int .i64 kd', .int .i64 nn', .int .u64 u', .string s', .slice A1' m1' c1', .slice A2' m2' c2'] 38)) (.cells #[.int .i64 0, .int .i64 0, .int .u64 0, .string ⟨#[]⟩, .slice none 0 0, .slice none 0 0] 38)
    rw [World.size_alloc, World.size_alloc] at this
    exact this
  rintro wn ⟨hbn, hzn, hXn, hVn, hYn⟩
  obtain ⟨x0, x1, x2, x3, x4, x5⟩ := cells6 hXn
  obtain ⟨v0, v1, v2, v3, v4, v5⟩ := cells6 hVn
  have gX : w.heap.size < wn.heap.size := by omega
  have HB := Lib.hid hbn
  have HY := Lib.hid hYn
  have HC := Lib.hid (HPU.out wn hbn)
  clear hbn hXn hVn hYn HPU
  go_wp2_with fail
  refine HC.out.mono ?_
  clear HC
  rintro e w1 ⟨⟨z0, z1, z2, z3, z4, z5, b, rfl, hn1, -⟩, hb1⟩
  obtain ⟨kd1, nn1, uu1, s1, B1, m1, d1, B2, m2, d2, rfl, rfl, rfl, rfl, rfl, rfl⟩ := hn1.form2
  dsimp only
  have HN1 := Lib.hid hn1
  have HBw := Lib.hid (HB.out.trans (hb1.mono (Nat.le_of_lt gX)))
  have HY1 := Lib.hid (below_row HY.out hb1)
  have hz1 := hb1.size
  clear hn1 hb1 HB HY x0 x1 x2 x3 x4 x5 v0 v1 v2 v3 v4 v5
  go_upto_region 2 with fail
  refine wp_named (fun W => Below w.heap.size w W ∧ w.heap.size + 1 + 1 < W.heap.size ∧ W.heap[w1.heap.size]? = some (.cells #[.int .i64 kd1, .int .i64 nn1, .int .u64 uu1, .string s1, .slice B1 m1 d1, .slice B2 m2 d2] 38 (0, 0)) ∧ W.heap[w.heap.size + 1 + 1]? = some (.cells #[.int .i64 0, .int .i64 0, .int .u64 0, .string ⟨#[]⟩, .slice none 0 0, .slice none 0 0] 38 (0, 0)) ∧ NRep W P [.int .i64 kd1, .int .i64 nn1, .int .u64 uu1, .string s1, .slice B1 m1 d1, .slice B2 m2 d2] b) ⟨HBw.out.alloc (by omega) _, by simp; omega, heap_alloc_new _ _, (Below.heap_alloc _ _ _ (by omega)).trans HY1.out, HN1.out.below ((Below.refl _ _).alloc (Nat.le_refl _) _)⟩ ?_
  clear HN1 HBw HY1
  generalize hZ : w1.heap.size = Z at *
  clear hZ
  rintro W ⟨hbw, hzw, hZr, hYr, hnw⟩
  obtain ⟨y0, y1, y2, y3, y4, y5⟩ := cells6 hYr
  have fy0 : W.frozen? ⟨w.heap.size + 1 + 1, 0, none⟩ = false := frozen_of_row _ _ _ _ _ hYr
  have fy1 : W.frozen? ⟨w.heap.size + 1 + 1, 1, none⟩ = false := frozen_of_row _ _ _ _ _ hYr
  have fy2 : W.frozen? ⟨w.heap.size + 1 + 1, 2, none⟩ = false := frozen_of_row _ _ _ _ _ hYr
  have fy3 : W.frozen? ⟨w.heap.size + 1 + 1, 3, none⟩ = false := frozen_of_row _ _ _ _ _ hYr
  have fy4 : W.frozen? ⟨w.heap.size + 1 + 1, 4, none⟩ = false := frozen_of_row _ _ _ _ _ hYr
  have fy5 : W.frozen? ⟨w.heap.size + 1 + 1, 5, none⟩ = false := frozen_of_row _ _ _ _ _ hYr
  have HBW := Lib.hid hbw
  have HYW := Lib.hid hYr
  cases is with
  | false =>
    have hr : res = (zT, 80) := by rw [HRES.out, if_pos rfl]
    subst hr
    clear hbw hZr hYr hnw HRES
    go_wp2_with fail
    (refine bodyPost_ret (v := .tuple #[.agg #[.int .i64 0, .int .i64 0, .int .u64 0, .string ⟨#[]⟩, .slice none 0 0, .slice none 0 0], .int .i64 80]) (by simp [results, Tryz.results26, go_sem, *]) rfl ?_)
    exact ⟨⟨_, rfl, fresh_zero _ _⟩, below_six HBW.out (by omega) _ _ _ _ _ _⟩
  | true =>
    have hr : res = if chkD P ≠ 0 then (zT, chkD P) else (P, 0) := by rw [HRES.out, if_neg (by simp)]
    have HCK := Lib.hid (fun (V : World) (h : Below W.heap.size W V) => tcheck_any P _ _ _ _ _ _ b V (hnw.below h) HW.out HZ.out)
    have HCP := Lib.hid (fun (V : World) (h : Below W.heap.size W V) => tcopy_any P V _ _ _ _ _ _ (NRep.reads _ _ _ (hnw.below h)) HS.out)
    obtain ⟨q0, q1, q2, q3, q4, q5⟩ := cells6 hZr
    have gZ : Z < W.heap.size := (Array.getElem?_eq_some_iff.1 hZr).1
    have HZR := Lib.hid hZr
    generalize chkD P = ck at *
    by_cases hck : ck = 0
    · rw [if_neg (by simpa using hck)] at hr
      subst hck
      subst hr
      clear hbw hZr hYr hnw HRES
      go_wp2_with fail
      refine (HCK.out _ (zb0 _ _)).mono ?_
      clear HCK
      rintro e w2 ⟨rfl, hb2⟩
      have hZ2 := below_row HZR.out hb2
      obtain ⟨r0, r1, r2, r3, r4, r5⟩ := cells6 hZ2
      have HB2 := Lib.hid hb2
      have HC2 := Lib.hid (HCP.out w2 hb2)
      have hz2 := hb2.size
      clear hZ2 hb2 HCP q0 q1 q2 q3 q4 q5
      go_wp2_with fail
      refine HC2.out.mono ?_
      clear HC2
      rintro e w3 ⟨⟨v1, rfl, hf⟩, hb3⟩
      have HF := Lib.hid hf
      obtain ⟨f0, f1, f2, f3, f4, f5, bf, rfl, hn3, -, -⟩ := hf
      obtain ⟨kd3, nn3, uu3, s3, C1, k1, e1, C2, k2, e2, rfl, rfl, rfl, rfl, rfl, rfl⟩ := hn3.form2
      have hY3 := below_row (below_row HYW.out HB2.out) hb3
      obtain ⟨y0, y1, y2, y3, y4, y5⟩ := cells6 hY3
      have fy0 : w3.frozen? ⟨w.heap.size + 1 + 1, 0, none⟩ = false := frozen_of_row _ _ _ _ _ hY3
      have fy1 : w3.frozen? ⟨w.heap.size + 1 + 1, 1, none⟩ = false := frozen_of_row _ _ _ _ _ hY3
      have fy2 : w3.frozen? ⟨w.heap.size + 1 + 1, 2, none⟩ = false := frozen_of_row _ _ _ _ _ hY3
      have fy3 : w3.frozen? ⟨w.heap.size + 1 + 1, 3, none⟩ = false := frozen_of_row _ _ _ _ _ hY3
      have fy4 : w3.frozen? ⟨w.heap.size + 1 + 1, 4, none⟩ = false := frozen_of_row _ _ _ _ _ hY3
      have fy5 : w3.frozen? ⟨w.heap.size + 1 + 1, 5, none⟩ = false := frozen_of_row _ _ _ _ _ hY3
      have HB3 := Lib.hid (HBW.out.trans ((HB2.out.trans (hb3.mono hz2)).mono (by omega)))
      have hz3 := hb3.size
      clear hY3 hn3 hb3 r0 r1 r2 r3 r4 r5
      go_wp2_with fail
      (refine bodyPost_ret (v := .tuple #[.agg #[.int .i64 kd3, .int .i64 nn3, .int .u64 uu3, .string s3, .slice C1 k1 e1, .slice C2 k2 e2], .int .i64 0]) (by simp [results, Tryz.results26, go_sem, *]) rfl ?_)
      exact ⟨⟨_, rfl, HF.out.six (by omega) (by omega) _ _ _ _ _ _⟩, below_six HB3.out (by omega) _ _ _ _ _ _⟩
    · rw [if_pos hck] at hr
      subst hr
      have b3 : (ck != 0) = true := by simp [hck]
      clear hbw hZr hYr hnw HRES hck
      go_wp2_with fail
      refine (HCK.out _ (zb0 _ _)).mono ?_
      clear HCK
      rintro e w2 ⟨rfl, hb2⟩
      have hY3 := below_row HYW.out hb2
      obtain ⟨y0, y1, y2, y3, y4, y5⟩ := cells6 hY3
      have fy0 : w2.frozen? ⟨w.heap.size + 1 + 1, 0, none⟩ = false := frozen_of_row _ _ _ _ _ hY3
      have fy1 : w2.frozen? ⟨w.heap.size + 1 + 1, 1, none⟩ = false := frozen_of_row _ _ _ _ _ hY3
      have fy2 : w2.frozen? ⟨w.heap.size + 1 + 1, 2, none⟩ = false := frozen_of_row _ _ _ _ _ hY3
      have fy3 : w2.frozen? ⟨w.heap.size + 1 + 1, 3, none⟩ = false := frozen_of_row _ _ _ _ _ hY3
      have fy4 : w2.frozen? ⟨w.heap.size + 1 + 1, 4, none⟩ = false := frozen_of_row _ _ _ _ _ hY3
      have fy5 : w2.frozen? ⟨w.heap.size + 1 + 1, 5, none⟩ = false := frozen_of_row _ _ _ _ _ hY3
      have HB3 := Lib.hid (HBW.out.trans (hb2.mono (by omega)))
      have hz3 := hb2.size
      clear hY3 hb2 q0 q1 q2 q3 q4 q5
      go_wp2_with fail
      (refine bodyPost_ret (v := .tuple #[.agg #[.int .i64 0, .int .i64 0, .int .u64 0, .string ⟨#[]⟩, .slice none 0 0, .slice none 0 0], .int .i64 ck]) (by simp [results, Tryz.results26, go_sem, *]) rfl ?_)
      exact ⟨⟨_, rfl, fresh_zero _ _⟩, below_six HB3.out (by omega) _ _ _ _ _ _⟩
end
end
end Go.Proofs.YtlblddeemkefkaaGreatDoor
