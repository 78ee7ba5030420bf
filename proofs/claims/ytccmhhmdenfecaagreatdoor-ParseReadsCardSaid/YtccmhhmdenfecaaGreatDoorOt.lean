/- The walk of accordionref11.Reader's members: written by wip/gen/ol.py. The walk of accordionref11.Reader's members: written by wip/gen/om.py. The walk of accordionref11.Parse: written by wip/gen/on.py. -/
import Derived.Test.YtccmhhmdenfecaaGreatDoorOs
import Derived.Test.YtccmhhmdenfecaaGreatDoorJh
import Derived.Deep.RegionHeld3
namespace Go.Proofs.YtccmhhmdenfecaaGreatDoor
set_option linter.unusedVariables false
set_option linter.unusedSimpArgs false
set_option linter.unusedSectionVars false
section
open Go.RowKit Go.Shelf
section
variable {P : Program} {ops : Array Oper} {Q : Exit → Act → World → Prop}
/-- The stages' law, with the frame behind the region written out. -/
theorem wp_region_stageP {id n : Nat} {a0 : Act} {w0 : World} (ds : List Tmp) (hds : dsB ops ds = true) (light : Tmp → Option Value) (sp : List Nat) (St : (Nat → Bool) → (Tmp → Value) → World → Prop)
    (hm : P.follows .mixedOrders = true) (hB : eachB ops n = true) (hn : a0.tmps.size = n)
    (hsc : ∀ (D D' : Nat → Bool) (ev ev' : Tmp → Value) (w : World), (∀ i ∈ sp, D i = D' i) → (∀ t, light t = none → ev t = ev' t) → St D ev w → St D' ev' w)
    (h00 : ∀ t V, light t = some V → (∀ (j : Nat) (o : Oper), ops[j]? = some o → o.dst ≠ some t) → a0.eval (.tmp t) = V)
    (h0 : St (fun _ => false) (fun t => a0.eval (.tmp t)) { w0 with drawn := w0.drawn + 1 })
    (hlight : ∀ (i : Nat) (o : Oper), ops[i]? = some o → i ∉ sp → ∃ d V, o.dst = some d ∧ light d = some V ∧ ∀ (D : Nat → Bool) (a : Act) (w : World), St D (fun t => a.eval (.tmp t)) w → (∀ e ∈ o.after, Region.binds .any e = true → D e.on = true) → D i = false → (∀ (j : Nat) (oj : Oper), ops[j]? = some oj → D j = true → ∀ e ∈ oj.after, Region.binds .any e = true → D e.on = true) →
      (∀ t ∈ o.looksAt ops, ∀ V, light t = some V → a.eval (.tmp t) = V) → Region.wanted o (yielded ops a.tmps) = true ∧ o.wp P a w (fun a' w' => a' = a.put o.dst V ∧ w' = w) Q)
    (hspd : ∀ (i : Nat) (o : Oper), ops[i]? = some o → i ∈ sp → ∀ d, o.dst = some d → light d = none)
    (hspecial : ∀ (i : Nat) (o : Oper), ops[i]? = some o → i ∈ sp → ∀ (D : Nat → Bool) (a : Act) (w : World), a.defers = a0.defers → St D (fun t => a.eval (.tmp t)) w → (∀ e ∈ o.after, Region.binds .any e = true → D e.on = true) → D i = false → (∀ (j : Nat) (oj : Oper), ops[j]? = some oj → D j = true → ∀ e ∈ oj.after, Region.binds .any e = true → D e.on = true) →
      (∀ t ∈ o.looksAt ops, ∀ V, light t = some V → a.eval (.tmp t) = V) → Region.wanted o (yielded ops a.tmps) = true ∧
        o.wp P a w (fun a' w' => ∃ v, a' = a.put o.dst v ∧ St (fun j => if j = i then true else D j) (fun t => if o.dst = some t then v else a.eval (.tmp t)) w') Q)
    (hend : ∀ (D : Nat → Bool) (f : Tmp → Value) (w : World), (∀ i, i < ops.size → D i = true) → (∀ t V, light t = some V → f t = V) → St D f w → Q .normal (puts f a0 ds) w) :
    (Code.region id ops true).wp P Q a0 w0 :=
  wp_region_stage light sp St hm hB hn hsc h00 h0 hlight hspd hspecial (fun D a w h1 h2 h3 h4 h5 h6 => by
    have e : a = puts (fun d => a.eval (.tmp d)) a0 ds := by
      refine act_eq (by rw [puts_size, h2, hn]) (by rw [puts_defers]; exact h1) fun t ht => ?_
      rw [puts_eval _ _ _ _ (by rw [hn, ← h2]; exact ht)]
      by_cases hmm : t ∈ ds
      · rw [if_pos hmm]
      · rw [if_neg hmm]
        exact h5 t fun j o hj hd => hmm (dsB_spec hds hj hd)
    rw [e]
    exact hend D _ w h3 h4 h6)
end
theorem opwp_ld6 {o : Oper} {a : Act} {w : World} {K : Act → World → Prop} {Q : Exit → Act → World → Prop} {x : Tmp} {b : Nat} {v0 v1 v2 v3 v4 v5 : Value} (hop : o.op = .load 27 (.tmp x)) (hx : a.eval (.tmp x) = .pointer (some ⟨b, 0, none⟩)) (h : w.heap[b]? = some (.cells #[v0, v1, v2, v3, v4, v5] 27 (0, 0))) (hK : K (a.put o.dst (.agg #[v0, v1, v2, v3, v4, v5])) w) : o.wp Tryz.prog a w K Q := by
  obtain ⟨n0, n1, n2, n3, n4, n5⟩ : w.cell? ⟨b, 0, none⟩ = some v0 ∧ w.cell? ⟨b, 1, none⟩ = some v1 ∧ w.cell? ⟨b, 2, none⟩ = some v2 ∧ w.cell? ⟨b, 3, none⟩ = some v3 ∧ w.cell? ⟨b, 4, none⟩ = some v4 ∧ w.cell? ⟨b, 5, none⟩ = some v5 := ⟨cell_of_row _ _ _ _ _ _ h, cell_of_row _ _ _ _ _ _ h, cell_of_row _ _ _ _ _ _ h, cell_of_row _ _ _ _ _ _ h, cell_of_row _ _ _ _ _ _ h, cell_of_row _ _ _ _ _ _ h⟩
  clear h
  refine opwp_val (w' := w) (.agg #[v0, v1, v2, v3, v4, v5]) ?_ hK
  simp only [execOp, hop, hx]
  go_simp
/-- Two own rows grow: the keys and the children. -/
def lightP (O : Nat) (k : List UInt8) (kv lv vc : Value) (t : Tmp) : Option Value := match t with
  | 5 => some (.pointer (some ⟨O, 0, none⟩))
  | 83 => some (.pointer (some ⟨O, 4, none⟩))
  | 84 => some kv
  | 85 => some (.string ⟨k.toArray⟩)
  | 88 => some (.pointer (some ⟨O, 5, none⟩))
  | 89 => some lv
  | 90 => some vc
  | _ => none
structure StP (wv : World) (k : List UInt8) (ks : List (List UInt8)) (L : List DT) (kv lv : Value) (xs : List Value) (c6 : List Value) (D : Nat → Bool) (ev : Tmp → Value) (w : World) : Prop where
  t : Touch (blkL kv ++ blkL lv) wv w
  k0 : D 4 = false → (∀ i ∈ blkL kv, w.heap[i]? = wv.heap[i]?) ∧ (D 3 = true → ∃ gk, ev 86 = .slice (some ⟨gk, 0, none⟩) 1 1 ∧ w.heap[gk]? = some (.cells #[.string ⟨k.toArray⟩] 9 (0, 0)) ∧ wv.heap.size ≤ gk)
  k1 : D 4 = true → ∃ A c, ev 87 = .slice A (ks.length + 1) c ∧ w.ownsRow 0 9 1 (.slice A (ks.length + 1) c) (ks.length + 1) (ks.map strV ++ [strV k]) ∧ ∀ i ∈ blkL (.slice A (ks.length + 1) c), i ∈ blkL kv ∨ wv.heap.size ≤ i
  l0 : D 9 = false → (∀ i ∈ blkL lv, w.heap[i]? = wv.heap[i]?) ∧ (D 8 = true → ∃ gl, ev 91 = .slice (some ⟨gl, 0, none⟩) 1 1 ∧ w.heap[gl]? = some (.cells c6.toArray 27 (0, 0)) ∧ wv.heap.size ≤ gl)
  l1 : D 9 = true → ∃ A c, ev 92 = .slice A (L.length + 1) c ∧ w.ownsRow 0 27 6 (.slice A (L.length + 1) c) (L.length + 1) (xs ++ c6) ∧ ∀ i ∈ blkL (.slice A (L.length + 1) c), i ∈ blkL lv ∨ wv.heap.size ≤ i
  d : D 4 = true → D 9 = true → ∀ i ∈ blkL (ev 87), i ∉ blkL (ev 92)
  a9 : D 10 = true → D 4 = true ∧ ev 9 = ev 87
  a10 : D 11 = true → D 9 = true ∧ ev 10 = ev 92
theorem StP_sc (wv : World) (O : Nat) (vc : Value) (k : List UInt8) (ks : List (List UInt8)) (L : List DT) (kv lv : Value) (xs : List Value) (c6 : List Value) (D D' : Nat → Bool) (ev ev' : Tmp → Value) (w : World)
    (h : ∀ i ∈ [3, 4, 8, 9, 10, 11], D i = D' i) (he : ∀ t, lightP O k kv lv vc t = none → ev t = ev' t) (hs : StP wv k ks L kv lv xs c6 D ev w) : StP wv k ks L kv lv xs c6 D' ev' w := by
  have e3 := h 3 (by decide)
  have e4 := h 4 (by decide)
  have e8 := h 8 (by decide)
  have e9 := h 9 (by decide)
  have e10 := h 10 (by decide)
  have e11 := h 11 (by decide)
  have f86 := he 86 rfl
  have f87 := he 87 rfl
  have f91 := he 91 rfl
  have f92 := he 92 rfl
  have g9 := he 9 rfl
  have g10 := he 10 rfl
  obtain ⟨h1, h2, h3, h4, h5, h6, h7, h8⟩ := hs
  rw [e4, e3, f86] at h2
  rw [e4, f87] at h3
  rw [e9, e8, f91] at h4
  rw [e9, f92] at h5
  rw [e4, e9, f87, f92] at h6
  rw [e10, e4, g9, f87] at h7
  rw [e11, e9, g10, f92] at h8
  exact ⟨h1, h2, h3, h4, h5, h6, h7, h8⟩
section
variable {wv w w3 : World} {k : List UInt8} {ks : List (List UInt8)} {L : List DT} {kv lv : Value} {xs c6 : List Value} {D D' : Nat → Bool} {ev ev' : Tmp → Value}
theorem grown_touch {T : List Nat} {a w w3 : World} {b : Option Nat} (h : Touch T a w) (hg : w.grownBy w3 b) (hb : ∀ i, b = some i → i ∈ T ∨ a.heap.size ≤ i) : Touch T a w3 :=
  ⟨hg.os.trans h.os, hg.tape.trans h.tape, hg.output.trans h.output, Nat.le_trans h.size hg.size, fun i hi hn => (hg.block i (Nat.lt_of_lt_of_le hi h.size) fun e => by rcases hb i e.symm with x | x; exact hn x; omega).trans (h.block i hi hn)⟩
/-- A new block. -/
theorem StP.alloc (h : StP wv k ks L kv lv xs c6 D ev w) (o : Obj) (hkl : ∀ i ∈ blkL kv ++ blkL lv, i < wv.heap.size)
    (e4 : D' 4 = D 4) (e9 : D' 9 = D 9) (e10 : D' 10 = D 10) (e11 : D' 11 = D 11) (f87 : ev' 87 = ev 87) (f92 : ev' 92 = ev 92) (g9 : ev' 9 = ev 9) (g10 : ev' 10 = ev 10)
    (hk : D 4 = false → D' 3 = true → ∃ gk, ev' 86 = .slice (some ⟨gk, 0, none⟩) 1 1 ∧ (w.alloc o).heap[gk]? = some (.cells #[.string ⟨k.toArray⟩] 9 (0, 0)) ∧ wv.heap.size ≤ gk)
    (hl : D 9 = false → D' 8 = true → ∃ gl, ev' 91 = .slice (some ⟨gl, 0, none⟩) 1 1 ∧ (w.alloc o).heap[gl]? = some (.cells c6.toArray 27 (0, 0)) ∧ wv.heap.size ≤ gl) : StP wv k ks L kv lv xs c6 D' ev' (w.alloc o) := by
  have hb : Below w.heap.size w (w.alloc o) := (Below.refl _ w).alloc (Nat.le_refl _) _
  have hs := h.t.size
  refine ⟨h.t.trans (Touch.quiet hb), fun hd => ⟨fun i hi => (hb.block i (by have := hkl i (by simp [hi]); omega)).trans ((h.k0 (by rw [← e4]; exact hd)).1 i hi), hk (by rw [← e4]; exact hd)⟩, fun hd => ?_, fun hd => ⟨fun i hi => (hb.block i (by have := hkl i (by simp [hi]); omega)).trans ((h.l0 (by rw [← e9]; exact hd)).1 i hi), hl (by rw [← e9]; exact hd)⟩, fun hd => ?_, fun h1 h2 => ?_, fun hd => ?_, fun hd => ?_⟩
  · obtain ⟨A, c, q1, q2, q3⟩ := h.k1 (by rw [← e4]; exact hd)
    exact ⟨A, c, by rw [f87]; exact q1, own_below q2 hb, q3⟩
  · obtain ⟨A, c, q1, q2, q3⟩ := h.l1 (by rw [← e9]; exact hd)
    exact ⟨A, c, by rw [f92]; exact q1, own_below q2 hb, q3⟩
  · rw [f87, f92]
    exact h.d (by rw [← e4]; exact h1) (by rw [← e9]; exact h2)
  · rw [e10] at hd
    rw [e4, g9, f87]
    exact h.a9 hd
  · rw [e11] at hd
    rw [e9, g10, f92]
    exact h.a10 hd
theorem StP.appK (h : StP wv k ks L kv lv xs c6 D ev w) (hkl : ∀ i ∈ blkL kv ++ blkL lv, i < wv.heap.size) (hdis : ∀ i ∈ blkL kv, i ∉ blkL lv) (hd4 : D 4 = false) {A : Option Addr} {c : Nat} (ho : w3.ownsRow 0 9 1 (.slice A (ks.length + 1) c) (ks.length + 1) (ks.map strV ++ [strV k])) (hg : w.grownBy w3 kv.ownBlock) (hw : (Value.slice A (ks.length + 1) c).ownBlock = kv.ownBlock ∨ (Value.slice A (ks.length + 1) c).ownBlock = some w.heap.size)
    (e4 : D' 4 = true) (e8 : D' 8 = D 8) (e9 : D' 9 = D 9) (e10 : D' 10 = D 10) (e11 : D' 11 = D 11) (f87 : ev' 87 = .slice A (ks.length + 1) c) (f91 : ev' 91 = ev 91) (f92 : ev' 92 = ev 92) (g10 : ev' 10 = ev 10) : StP wv k ks L kv lv xs c6 D' ev' w3 := by
  have hs := h.t.size
  have hne : ∀ i, i < w.heap.size → i ∉ blkL kv → w3.heap[i]? = w.heap[i]? := fun i hi hn => hg.block i hi fun e => hn (mem_blk.2 e.symm)
  have hdk : ∀ i ∈ blkL kv, i < wv.heap.size := fun i hi => hkl i (by simp [hi])
  have hin : ∀ i ∈ blkL (.slice A (ks.length + 1) c), i ∈ blkL kv ∨ i = w.heap.size := fun i hi => by
    rw [mem_blk] at hi
    rcases hw with hw | hw
    · rw [hw] at hi; exact .inl (mem_blk.2 hi)
    · rw [hw] at hi; injection hi with hi; exact .inr hi.symm
  refine ⟨grown_touch h.t hg (fun i hi => .inl (by simp [mem_blk, hi])), fun hd => (by rw [e4] at hd; cases hd), fun _ => ⟨A, c, f87, ho, fun i hi => ?_⟩, fun hd => ⟨fun i hi => ?_, fun h8 => ?_⟩, fun hd => ?_, fun h1 h2 => ?_, fun hd => ?_, fun hd => ?_⟩
  · rcases hin i hi with x | x
    · exact .inl x
    · exact .inr (by omega)
  · exact (hne i (by have := hkl i (by simp [hi]); omega) (fun hx => hdis i hx hi)).trans ((h.l0 (by rw [← e9]; exact hd)).1 i hi)
  · obtain ⟨gl, q1, q2, q3⟩ := (h.l0 (by rw [← e9]; exact hd)).2 (by rw [← e8]; exact h8)
    exact ⟨gl, by rw [f91]; exact q1, (hne gl (Array.getElem?_eq_some_iff.1 q2).1 (fun hx => by have := hdk gl hx; omega)).trans q2, q3⟩
  · obtain ⟨B, e, q1, q2, q3⟩ := h.l1 (by rw [← e9]; exact hd)
    refine ⟨B, e, by rw [f92]; exact q1, own_same2 q2 fun i hi => hne i (q2.lt i (mem_blk.1 hi)).2 (fun hx => ?_), q3⟩
    rcases q3 i hi with y | y
    · exact hdis i hx y
    · have := hdk i hx; omega
  · rw [f87, f92]
    intro i hi hm
    obtain ⟨B, e, q1, q2, q3⟩ := h.l1 (by rw [← e9]; exact h2)
    rw [q1] at hm
    rcases hin i hi with x | x
    · rcases q3 i hm with y | y
      · exact hdis i x y
      · have := hdk i x; omega
    · have := (q2.lt i (mem_blk.1 hm)).2; omega
  · rw [e10] at hd
    have := (h.a9 hd).1
    rw [hd4] at this
    cases this
  · rw [e11] at hd
    rw [e9, g10, f92]
    exact h.a10 hd
theorem StP.appL (h : StP wv k ks L kv lv xs c6 D ev w) (hkl : ∀ i ∈ blkL kv ++ blkL lv, i < wv.heap.size) (hdis : ∀ i ∈ blkL kv, i ∉ blkL lv) (hd9 : D 9 = false) {A : Option Addr} {c : Nat} (ho : w3.ownsRow 0 27 6 (.slice A (L.length + 1) c) (L.length + 1) (xs ++ c6)) (hg : w.grownBy w3 lv.ownBlock) (hw : (Value.slice A (L.length + 1) c).ownBlock = lv.ownBlock ∨ (Value.slice A (L.length + 1) c).ownBlock = some w.heap.size)
    (e9 : D' 9 = true) (e3 : D' 3 = D 3) (e4 : D' 4 = D 4) (e10 : D' 10 = D 10) (e11 : D' 11 = D 11) (f92 : ev' 92 = .slice A (L.length + 1) c) (f86 : ev' 86 = ev 86) (f87 : ev' 87 = ev 87) (g9 : ev' 9 = ev 9) : StP wv k ks L kv lv xs c6 D' ev' w3 := by
  have hs := h.t.size
  have hne : ∀ i, i < w.heap.size → i ∉ blkL lv → w3.heap[i]? = w.heap[i]? := fun i hi hn => hg.block i hi fun e => hn (mem_blk.2 e.symm)
  have hdl : ∀ i ∈ blkL lv, i < wv.heap.size := fun i hi => hkl i (by simp [hi])
  have hin : ∀ i ∈ blkL (.slice A (L.length + 1) c), i ∈ blkL lv ∨ i = w.heap.size := fun i hi => by
    rw [mem_blk] at hi
    rcases hw with hw | hw
    · rw [hw] at hi; exact .inl (mem_blk.2 hi)
    · rw [hw] at hi; injection hi with hi; exact .inr hi.symm
  refine ⟨grown_touch h.t hg (fun i hi => .inl (by simp [mem_blk, hi])), fun hd => ⟨fun i hi => ?_, fun h8 => ?_⟩, fun hd => ?_, fun hd => (by rw [e9] at hd; cases hd), fun _ => ⟨A, c, f92, ho, fun i hi => ?_⟩, fun h1 h2 => ?_, fun hd => ?_, fun hd => ?_⟩
  · exact (hne i (by have := hkl i (by simp [hi]); omega) (fun hx => hdis i hi hx)).trans ((h.k0 (by rw [← e4]; exact hd)).1 i hi)
  · obtain ⟨gl, q1, q2, q3⟩ := (h.k0 (by rw [← e4]; exact hd)).2 (by rw [← e3]; exact h8)
    exact ⟨gl, by rw [f86]; exact q1, (hne gl (Array.getElem?_eq_some_iff.1 q2).1 (fun hx => by have := hdl gl hx; omega)).trans q2, q3⟩
  · obtain ⟨B, e, q1, q2, q3⟩ := h.k1 (by rw [← e4]; exact hd)
    refine ⟨B, e, by rw [f87]; exact q1, own_same2 q2 fun i hi => hne i (q2.lt i (mem_blk.1 hi)).2 (fun hx => ?_), q3⟩
    rcases q3 i hi with y | y
    · exact hdis i y hx
    · have := hdl i hx; omega
  · rcases hin i hi with x | x
    · exact .inl x
    · exact .inr (by omega)
  · rw [f87, f92]
    intro i hi hm
    obtain ⟨B, e, q1, q2, q3⟩ := h.k1 (by rw [← e4]; exact h1)
    rw [q1] at hi
    rcases hin i hm with x | x
    · rcases q3 i hi with y | y
      · exact hdis i y x
      · have := hdl i x; omega
    · have := (q2.lt i (mem_blk.1 hi)).2; omega
  · rw [e10] at hd
    rw [e4, g9, f87]
    exact h.a9 hd
  · rw [e11] at hd
    have := (h.a10 hd).1
    rw [hd9] at this
    cases this
/-- Both rows have grown. -/
theorem StP.fin {B : Nat} {bl bs : List Nat} {T : DT} (hK : Kids wv B ks L kv lv xs bl) (hN : NRep wv T c6 bs) (hnd : bs.Nodup) (hge : ∀ i ∈ bs, B ≤ i) (hdb : ∀ i ∈ bs, i ∉ blkL kv ++ (blkL lv ++ bl)) (hB : B ≤ wv.heap.size) (h : StP wv k ks L kv lv xs c6 D ev w) (h4 : D 4 = true) (h9 : D 9 = true) (h10 : D 10 = true) (h11 : D 11 = true) :
    ∃ A c A' c', ev 9 = .slice A (ks.length + 1) c ∧ ev 10 = .slice A' (L.length + 1) c' ∧ Kids w B (ks ++ [k]) (L ++ [T]) (.slice A (ks.length + 1) c) (.slice A' (L.length + 1) c') (xs ++ c6) (bl ++ bs) ∧ Touch (blkL kv ++ blkL lv) wv w := by
  obtain ⟨A, c, p1, p2, p3⟩ := h.k1 h4
  obtain ⟨A', c', q1, q2, q3⟩ := h.l1 h9
  have hd := h.d h4 h9
  rw [p1, q1] at hd
  have hlt := hK.lt
  have hbs := NRep.bd T c6 bs hN
  have hn0 := hK.nd
  rw [List.nodup_append] at hn0
  obtain ⟨n1, n2, n3⟩ := hn0
  rw [List.nodup_append] at n2
  obtain ⟨n4, n5, n6⟩ := n2
  refine ⟨A, c, A', c', by rw [(h.a9 h10).2, p1], by rw [(h.a10 h11).2, q1], ⟨by rw [List.length_append, List.map_append]; exact p2, by rw [List.length_append]; exact q2, NReps.snoc _ _ _ _ _ _ (NReps.same _ _ _ hK.n fun i hi => h.t.block i (hlt i (by simp [hi])) (fun hm => ?_)) (NRep.same _ _ _ hN fun i hi => h.t.block i (hbs i hi) (fun hm => hdb i hi (by simp only [List.mem_append] at hm ⊢; rcases hm with hm | hm; exact .inl hm; exact .inr (.inl hm)))), ?_, fun i hi => ?_⟩, h.t⟩
  · rcases List.mem_append.1 hm with hm | hm
    · exact n3 i hm i (by simp [hi]) rfl
    · exact n6 i hm i hi rfl
  · rw [List.nodup_append]
    refine ⟨by unfold blkL; cases (Value.slice A (ks.length + 1) c).ownBlock <;> simp, ?_, fun i hi j hj e => ?_⟩
    · rw [List.nodup_append]
      refine ⟨by unfold blkL; cases (Value.slice A' (L.length + 1) c').ownBlock <;> simp, ?_, fun i hi j hj e => ?_⟩
      · rw [List.nodup_append]
        exact ⟨n5, hnd, fun i hi j hj e => hdb j hj (by rw [← e]; simp [hi])⟩
      · subst e
        rcases List.mem_append.1 hj with hj | hj
        · rcases q3 i hi with y | y
          · exact n6 i y i hj rfl
          · have := hlt i (by simp [hj]); omega
        · rcases q3 i hi with y | y
          · exact hdb i hj (by simp [y])
          · have := hbs i hj; omega
    · subst e
      rcases List.mem_append.1 hj with hj | hj
      · exact hd i hi hj
      · rcases List.mem_append.1 hj with hj | hj
        · rcases p3 i hi with y | y
          · exact n3 i y i (by simp [hj]) rfl
          · have := hlt i (by simp [hj]); omega
        · rcases p3 i hi with y | y
          · exact hdb i hj (by simp [y])
          · have := hbs i hj; omega
  · simp only [List.mem_append] at hi
    rcases hi with hi | hi | hi | hi
    · rcases p3 i hi with y | y
      · exact hK.ge i (by simp [y])
      · omega
    · rcases q3 i hi with y | y
      · exact hK.ge i (by simp [y])
      · omega
    · exact hK.ge i (by simp [hi])
    · exact hge i hi
end
end
section
open Go.RowKit Go.Shelf
/-- The members' walk on the way. -/
structure MB (w : World) (R : Nat) (s : List UInt8) (m : Int) (x : PE Tok) (ks : List (List UInt8)) (L : List DT) (kv lv : Value) (xs : List Value) (bl : List Nat) (W : World) : Prop where
  s : RSt W R s m x
  t : Tch w.heap.size [R] w W
  z : W.heap[w.heap.size]? = some (.cells zC.toArray 27 (0, 0))
  o : W.heap[w.heap.size + 1]? = some (.cells (outC 17 kv lv) 27 (0, 0))
  k : Kids W (w.heap.size + 2) ks L kv lv xs bl
  l : R < w.heap.size
  n : w.heap.size + 2 ≤ W.heap.size
theorem MB.step {w : World} {R : Nat} {s : List UInt8} {m m' : Int} {x x' : PE Tok} {ks : List (List UInt8)} {L : List DT} {kv lv : Value} {xs : List Value} {bl : List Nat} {W W' : World} (h : MB w R s m x ks L kv lv xs bl W) (hs : RSt W' R s m' x') (ht : Touch [R] W W') : MB w R s m' x' ks L kv lv xs bl W' :=
  ⟨hs, h.t.trans (ht.tch (by have := h.n; omega)), (ht.block _ (by have := h.n; omega) (by have := h.l; simp; omega)).trans h.z, (ht.block _ (by have := h.n; omega) (by have := h.l; simp; omega)).trans h.o, h.k.touch ht (by have := h.l; omega), h.l, Nat.le_trans h.n ht.size⟩
theorem MB.fin {w : World} {R : Nat} {s : List UInt8} {m : Int} {x : PE Tok} {ks : List (List UInt8)} {L : List DT} {kv lv : Value} {xs : List Value} {bl : List Nat} {W : World} (h : MB w R s m x ks L kv lv xs bl W) :
    Touch [R] w ((((((W.setCell ⟨w.heap.size, 0, none⟩ (.int .i64 17)).setCell ⟨w.heap.size, 1, none⟩ (.int .i64 0)).setCell ⟨w.heap.size, 2, none⟩ (.int .u64 0)).setCell ⟨w.heap.size, 3, none⟩ (.string ⟨#[]⟩)).setCell ⟨w.heap.size, 4, none⟩ kv).setCell ⟨w.heap.size, 5, none⟩ lv) ∧
    Fresh w.heap.size ((((((W.setCell ⟨w.heap.size, 0, none⟩ (.int .i64 17)).setCell ⟨w.heap.size, 1, none⟩ (.int .i64 0)).setCell ⟨w.heap.size, 2, none⟩ (.int .u64 0)).setCell ⟨w.heap.size, 3, none⟩ (.string ⟨#[]⟩)).setCell ⟨w.heap.size, 4, none⟩ kv).setCell ⟨w.heap.size, 5, none⟩ lv) (.mk 17 0 0 [] ks L) (.agg #[.int .i64 17, .int .i64 0, .int .u64 0, .string ⟨#[]⟩, kv, lv]) ∧
    RSt ((((((W.setCell ⟨w.heap.size, 0, none⟩ (.int .i64 17)).setCell ⟨w.heap.size, 1, none⟩ (.int .i64 0)).setCell ⟨w.heap.size, 2, none⟩ (.int .u64 0)).setCell ⟨w.heap.size, 3, none⟩ (.string ⟨#[]⟩)).setCell ⟨w.heap.size, 4, none⟩ kv).setCell ⟨w.heap.size, 5, none⟩ lv) R s m x := by
  have hoth : ∀ i, i ≠ w.heap.size → ((((((W.setCell ⟨w.heap.size, 0, none⟩ (.int .i64 17)).setCell ⟨w.heap.size, 1, none⟩ (.int .i64 0)).setCell ⟨w.heap.size, 2, none⟩ (.int .u64 0)).setCell ⟨w.heap.size, 3, none⟩ (.string ⟨#[]⟩)).setCell ⟨w.heap.size, 4, none⟩ kv).setCell ⟨w.heap.size, 5, none⟩ lv).heap[i]? = W.heap[i]? := by
    intro i hne
    rw [heap_setCell_other _ _ _ _ hne, heap_setCell_other _ _ _ _ hne, heap_setCell_other _ _ _ _ hne, heap_setCell_other _ _ _ _ hne, heap_setCell_other _ _ _ _ hne, heap_setCell_other _ _ _ _ hne]
  exact ⟨six_over h.t.touch (Nat.le_refl _) _ _ _ _ _ _, (Kids.fresh h.k (fun i hi => hoth i (by have := h.k.ge i hi; omega)) 17 0 0 []).mono (by omega), h.s.same (hoth R (by have := h.l; omega))⟩
theorem MB.start {w : World} {R : Nat} {s : List UInt8} {m : Int} {x : PE Tok} (h : RSt w R s m x) : MB w R s m x [] [] (.slice none 0 0) (.slice none 0 0) [] [] ((w.alloc (.cells zC.toArray 27)).alloc (.cells (outC 17 (.slice none 0 0) (.slice none 0 0)) 27)) := by
  have h2 := alloc2 w (.cells zC.toArray 27) (.cells (outC 17 (.slice none 0 0) (.slice none 0 0)) 27)
  have hb : Below w.heap.size w ((w.alloc (.cells zC.toArray 27)).alloc (.cells (outC 17 (.slice none 0 0) (.slice none 0 0)) 27)) := ((Below.refl _ _).alloc (Nat.le_refl _) _).alloc (by rw [World.size_alloc]; omega) _
  exact ⟨h.below hb, (Touch.quiet hb).tch (Nat.le_refl _), h2.1, h2.2, kids_nil _ _, h.lt, by rw [World.size_alloc, World.size_alloc]; omega⟩
/-- What stands ahead of a member's value, as the reference reads it. -/
theorem head_ref {s : List UInt8} {ks : List (List UInt8)} {t : Tok} (hk : t.kind = 12) :
    mustS s (nextS s (if t.text ∈ ks then failP (if (0 : UInt8) ∈ t.text then .error (t.from_, 70) else .ok t) t.from_ 71 else if (0 : UInt8) ∈ t.text then .error (t.from_, 70) else .ok t)) 6 = (match headP s true ks t with
      | .ok p => .ok p.2
      | .error y => .error y) ∧ ∀ p, headP s true ks t = .ok p → p.1 = ks ++ [t.text] := by
  have hH : headP s true ks t = (if (0 : UInt8) ∈ t.text then .error (t.from_, 70) else if t.text ∈ ks then .error (t.from_, 71) else match nextP s t with
      | .error x => .error x
      | .ok t1 => if t1.kind ≠ 6 then .error (t1.from_, 100) else match nextP s t1 with
        | .error x => .error x
        | .ok t2 => .ok (ks ++ [t.text], t2)) := by
    unfold headP
    rw [if_neg (show ¬ true = false by decide), if_neg (show ¬ t.kind ≠ 12 by simp [hk])]
    rfl
  rw [hH]
  by_cases h0 : (0 : UInt8) ∈ t.text
  · rw [if_pos h0]
    by_cases h1 : t.text ∈ ks
    · rw [if_pos h1, if_pos h0]; exact ⟨rfl, fun p h => by cases h⟩
    · rw [if_neg h1, if_pos h0]; exact ⟨rfl, fun p h => by cases h⟩
  · rw [if_neg h0]
    by_cases h1 : t.text ∈ ks
    · rw [if_pos h1, if_neg h0, if_pos h1]; exact ⟨rfl, fun p h => by cases h⟩
    · rw [if_neg h1, if_neg h0, if_neg h1]
      unfold nextS mustS
      dsimp only
      cases nextP s t with
      | error y => exact ⟨rfl, fun p h => by cases h⟩
      | ok t1 =>
        dsimp only
        by_cases h6 : t1.kind = 6
        · rw [if_pos h6, if_neg (by simp [h6])]
          cases nextP s t1 with
          | error y => exact ⟨rfl, fun p h => by cases h⟩
          | ok t2 => exact ⟨rfl, fun p h => by cases h; rfl⟩
        · rw [if_neg h6, if_pos h6]; exact ⟨rfl, fun p h => by cases h⟩
theorem fail_from {W : World} {R : Nat} {s : List UInt8} {m a e : Int} {x : PE Tok} {t t' : Tok} (hx : x = .ok t ∨ ∃ y, x = .error y) (h : RSt W R s m x) (hr : RRow W R s t' m a e) (c : Int) : failP x t'.from_ c = failP x t.from_ c := by
  rcases hx with rfl | ⟨y, rfl⟩
  · have h1 : RRow W R s t m 0 0 := h
    have q := h1.cells.2.2.1
    rw [hr.cells.2.2.1] at q
    injection q with q
    injection q with _ q
    rw [q]
  · rfl
theorem take_mem {k : List UInt8} {ks : List (List UInt8)} {j : Nat} (hj : j < ks.length) : (k ∈ ks.take (j + 1)) = (k ∈ ks.take j ∨ ks[j] = k) := by
  rw [List.take_succ_eq_append_getElem hj, List.mem_append, List.mem_singleton]
  rw [eq_comm (a := k)]
def lightQ (O X : Nat) (k : List UInt8) (kv lv vc : Value) (t : Tmp) : Option Value := match t with
  | 5 => some (.pointer (some ⟨O, 0, none⟩))
  | 6 => some (.string ⟨k.toArray⟩)
  | 8 => some (.pointer (some ⟨X, 0, none⟩))
  | 83 => some (.pointer (some ⟨O, 4, none⟩))
  | 84 => some kv
  | 85 => some (.string ⟨k.toArray⟩)
  | 88 => some (.pointer (some ⟨O, 5, none⟩))
  | 89 => some lv
  | 90 => some vc
  | _ => none
theorem StQ_sc (wv : World) (O X : Nat) (vc : Value) (k : List UInt8) (ks : List (List UInt8)) (L : List DT) (kv lv : Value) (xs : List Value) (c6 : List Value) (D D' : Nat → Bool) (ev ev' : Tmp → Value) (w : World)
    (h : ∀ i ∈ [3, 4, 8, 9, 10, 11], D i = D' i) (he : ∀ t, lightQ O X k kv lv vc t = none → ev t = ev' t) (hs : StP wv k ks L kv lv xs c6 D ev w) : StP wv k ks L kv lv xs c6 D' ev' w := by
  refine StP_sc wv O vc k ks L kv lv xs c6 D D' (fun t => if t ∈ [86, 87, 91, 92, 9, 10] then ev' t else ev' t) ev' w h (fun t _ => by split <;> rfl) ?_
  have f86 := he 86 rfl
  have f87 := he 87 rfl
  have f91 := he 91 rfl
  have f92 := he 92 rfl
  have g9 := he 9 rfl
  have g10 := he 10 rfl
  obtain ⟨h1, h2, h3, h4, h5, h6, h7, h8⟩ := hs
  rw [f86] at h2
  rw [f87] at h3
  rw [f91] at h4
  rw [f92] at h5
  rw [f87, f92] at h6
  rw [g9, f87] at h7
  rw [g10, f92] at h8
  simp only [ite_self]
  exact ⟨h1, h2, h3, h4, h5, h6, h7, h8⟩
theorem members_set {w w9 : World} {R : Nat} {s : List UInt8} {m : Int} {x : PE Tok} {ks : List (List UInt8)} {L : List DT} {kv lv kv' lv' : Value} {xs : List Value} {bl : List Nat} (hs : RSt w9 R s m x) (ht : Tch w.heap.size [R] w w9) (hz : w9.heap[w.heap.size]? = some (.cells zC.toArray 27 (0, 0))) (ho : w9.heap[w.heap.size + 1]? = some (.cells (outC 17 kv lv) 27 (0, 0)))
    (hk : Kids w9 (w.heap.size + 2) ks L kv' lv' xs bl) (hl : R < w.heap.size) (hn : w.heap.size + 2 ≤ w9.heap.size) : MB w R s m x ks L kv' lv' xs bl ((w9.setCell ⟨w.heap.size + 1, 4, none⟩ kv').setCell ⟨w.heap.size + 1, 5, none⟩ lv') := by
  have hoth : ∀ i, i ≠ w.heap.size + 1 → ((w9.setCell ⟨w.heap.size + 1, 4, none⟩ kv').setCell ⟨w.heap.size + 1, 5, none⟩ lv').heap[i]? = w9.heap[i]? := fun i hi => (heap_setCell_other _ _ _ _ hi).trans (heap_setCell_other _ _ _ _ hi)
  have h1 := heap_setCell_same w9 (w.heap.size + 1) 4 _ _ kv' ho
  have h2 := heap_setCell_same _ (w.heap.size + 1) 5 _ _ lv' h1
  exact ⟨hs.same (hoth R (by omega)), (ht.setCell (p := ⟨w.heap.size + 1, 4, none⟩) (by show w.heap.size ≤ w.heap.size + 1; omega) _).setCell (p := ⟨w.heap.size + 1, 5, none⟩) (by show w.heap.size ≤ w.heap.size + 1; omega) _, (hoth _ (by omega)).trans hz, h2, hk.same fun i hi => hoth i (by have := hk.ge i hi; omega), hl, by simpa using hn⟩
set_option maxHeartbeats 32000000 in
set_option maxRecDepth 100000 in
theorem rmembers_any (s : List UInt8) (hl : s.length ≤ 1073741824) (g : Nat) (HV : ∀ g', g' < g → RValC s g') : RMembC s g := by
  intro dp x many R w h hm0 hm hf hd0 hd
  have hR := h.lt
  have HST := Lib.hid (MB.start h)
  by_cases hi : isP x 2 = true
  · obtain ⟨t, rfl⟩ : ∃ t, x = .ok t := by
      cases x with
      | ok t => exact ⟨t, rfl⟩
      | error y => cases hi
    have hk : t.kind = 2 := by simpa [isP] using hi
    have HEQ := Lib.hid (show allR s g true dp many (.ok t) = shutP s [] [] t many by
      obtain ⟨g, rfl⟩ : ∃ k, g = k + 1 := ⟨g - 1, by omega⟩
      unfold allR
      dsimp only
      rw [eachP, if_pos (show t.kind = lastP true from hk)])
    clear h hk hf HV
    go_enter Tryz.func59, Tryz.ntmps59
    go_upto_region 2 with fail
    refine wp_named (fun wn => MB w R s many (.ok t) [] [] (.slice none 0 0) (.slice none 0 0) [] [] wn) HST.out ?_
    clear HST
    rintro wn hmb
    have HM0 := Lib.hid hmb
    have HI := Lib.hid (risr_any s (.ok t) many R 2 wn hmb.s)
    rw [hi] at HI
    clear hmb hi
    go_wp2_with fail
    refine HI.out.mono ?_
    rintro o w1 ⟨rfl, rfl⟩
    go_wp2_with fail
    refine (rnextr_any s (.ok t) many R wn HM0.out.s hl).mono ?_
    rintro o w2 ⟨rfl, hs, ht⟩
    have HMB := Lib.hid (HM0.out.step hs ht)
    clear hs ht HI HM0
    obtain ⟨o0, o1, o2, o3, o4, o5⟩ := cells6 (show w2.heap[w.heap.size + 1]? = some (.cells #[.int .i64 17, .int .i64 0, .int .u64 0, .string ⟨#[]⟩, (.slice none 0 0), (.slice none 0 0)] 27 (0, 0)) from HMB.out.o)
    obtain ⟨z0, z1, z2, z3, z4, z5⟩ := cells6 (show w2.heap[w.heap.size]? = some (.cells #[.int .i64 0, .int .i64 0, .int .u64 0, .string ⟨#[]⟩, .slice none 0 0, .slice none 0 0] 27 (0, 0)) from HMB.out.z)
    have fz : ∀ i, w2.frozen? ⟨w.heap.size, i, none⟩ = false := fun i => frozen_of_row _ _ _ _ _ HMB.out.z
    have fz0 := fz 0
    have fz1 := fz 1
    have fz2 := fz 2
    have fz3 := fz 3
    have fz4 := fz 4
    have fz5 := fz 5
    clear fz
    go_wp2_with fail
    (refine bodyPost_ret (v := .agg #[.int .i64 17, .int .i64 0, .int .u64 0, .string ⟨#[]⟩, (.slice none 0 0), (.slice none 0 0)]) (by simp [results, Tryz.results59, go_sem, *]) rfl ?_)
    obtain ⟨q1, q2, q3⟩ := HMB.out.fin
    refine ⟨q1, [], [], _, rfl, q2, ?_⟩
    rw [HEQ.out]
    unfold shutP
    unfold nextS at q3
    dsimp only at q3
    cases hq : nextP s t with
    | error y => rw [hq] at q3; exact ⟨_, q3⟩
    | ok t1 => rw [hq] at q3; exact ⟨rfl, rfl, q3⟩
  · have hi' : isP x 2 = false := by simpa using hi
    have HREL : Hid (LRel s g true dp (allR s g true dp many x) x many [] []) := Lib.hid (by
      unfold LRel allR
      cases x with
      | error y => rfl
      | ok t =>
        refine ⟨hm0, hm, by simp; omega, g, Nat.le_refl _, hf, ?_⟩
        dsimp only
        rw [if_neg (by simpa [isP, lastP] using hi')])
    have HVV := Lib.hid HV
    generalize allR s g true dp many x = res at *
    have HDD := Lib.hid (And.intro hd0 hd)
    have q1 : IntKind.i64.wrap (dp + 1) = dp + 1 := IntWalk.i64_in _ (by omega)
    clear h hi HV hf hm0 hm hd0 hd
    go_enter Tryz.func59, Tryz.ntmps59
    go_upto_region 2 with fail
    refine wp_named (fun wn => MB w R s many x [] [] (.slice none 0 0) (.slice none 0 0) [] [] wn) HST.out ?_
    clear HST
    rintro wn hmb
    have HM0 := Lib.hid hmb
    have HI := Lib.hid (risr_any s x many R 2 wn hmb.s)
    rw [hi'] at HI
    clear hmb hi'
    go_wp2_with fail
    refine HI.out.mono ?_
    rintro o w1 ⟨rfl, rfl⟩
    clear HI
    go_wp2_with fail
    go_loopw [6] (fun _ wr => ∃ (x : PE Tok) (m : Int) (ks : List (List UInt8)) (L : List DT) (kv lv : Value) (xs : List Value) (bl : List Nat), MB w R s m x ks L kv lv xs bl wr ∧ Hid (LRel s g true dp res x m ks L) ∧ Hid (ks.length = L.length)) (fun _ wr => 4096 - (intOf ((wr.cell? ⟨R, 7, none⟩).getD undef)).toNat)
    case atStart => exact ⟨x, many, [], [], _, _, [], [], HM0.out, HREL, Lib.hid rfl⟩
    case round =>
      rename_i wr hK0
      clear HREL HM0
      obtain ⟨x, m, ks, L, kv, lv, xs, bl, hmb, hLR, HKL⟩ := hrel
      obtain ⟨Ak, ck, rfl⟩ := owns_ptr hmb.k.k
      obtain ⟨Al, cl, rfl⟩ := owns_ptr hmb.k.r
      cases x with
      | error y =>
        obtain ⟨h0, t, hr⟩ := hmb.s
        obtain ⟨-, -, -, -, -, -, -, -, -, c9, -⟩ := hr.cells
        have ez : (y.2 == 0) = false := by simp [h0]
        have HMB := Lib.hid hmb
        have HRES := Lib.hid (show res = .error y from hLR.out)
        clear hr h0 hmb hLR
        obtain ⟨y1, y2⟩ := y
        dsimp only at ez c9
        obtain ⟨o0, o1, o2, o3, o4, o5⟩ := cells6 (show wr.heap[w.heap.size + 1]? = some (.cells #[.int .i64 17, .int .i64 0, .int .u64 0, .string ⟨#[]⟩, (.slice Ak ks.length ck), (.slice Al L.length cl)] 27 (0, 0)) from HMB.out.o)
        obtain ⟨z0, z1, z2, z3, z4, z5⟩ := cells6 (show wr.heap[w.heap.size]? = some (.cells #[.int .i64 0, .int .i64 0, .int .u64 0, .string ⟨#[]⟩, .slice none 0 0, .slice none 0 0] 27 (0, 0)) from HMB.out.z)
        have fz : ∀ i, wr.frozen? ⟨w.heap.size, i, none⟩ = false := fun i => frozen_of_row _ _ _ _ _ HMB.out.z
        have fz0 := fz 0
        have fz1 := fz 1
        have fz2 := fz 2
        have fz3 := fz 3
        have fz4 := fz 4
        have fz5 := fz 5
        clear fz
        go_wp2_with fail
        (refine bodyPost_ret (v := .agg #[.int .i64 17, .int .i64 0, .int .u64 0, .string ⟨#[]⟩, (.slice Ak ks.length ck), (.slice Al L.length cl)]) (by simp [results, Tryz.results59, go_sem, *]) rfl ?_)
        obtain ⟨q1, q2, q3⟩ := HMB.out.fin
        rw [HRES.out]
        exact ⟨q1, ks, L, _, rfl, q2, m, q3⟩
      | ok t =>
        obtain ⟨hm0, hm, hLm, g1, hg1, hf, hE⟩ := hLR.out
        obtain ⟨g1, rfl⟩ : ∃ k, g1 = k + 1 := ⟨g1 - 1, by omega⟩
        have hr : RRow wr R s t m 0 0 := hmb.s
        obtain ⟨-, c1, c2, -, -, -, c6, c7, -, c9, -⟩ := hr.cells
        have htl := hr.2.1
        unfold strV at c6
        have HBD := Lib.hid (And.intro hm0 (And.intro hm (And.intro hLm hf)))
        have HMB := Lib.hid hmb
        have HG1 := Lib.hid hg1
        have HI := Lib.hid (risr_any s (.ok t) m R 12 wr hmb.s)
        by_cases h12 : t.kind = 12
        · have hi12 : isP (.ok t) 12 = true := by simp [isP, h12]
          rw [hi12] at HI
          have HEACH : Hid ((∀ y, headP s true ks t = .error y → res = .error y) ∧ ∀ ks1 t1, headP s true ks t = .ok (ks1, t1) → OneRel s g true dp res (valP s g1 (dp + 1) t1 m) m ks1 L) := Lib.hid (by
            have hnl : ¬ t.kind = lastP true := by rw [h12]; decide
            rw [if_neg hnl] at hE
            refine ⟨fun y hy => ?_, fun ks1 t1 hh => one_rel hg1 hm0 hLm hf hE hnl hh⟩
            rw [eachP, if_neg hnl, hy] at hE
            exact hE.symm)
          have hhr := head_ref (s := s) (ks := ks) h12
          have HEQ2 := Lib.hid hhr.2
          have HMR := Lib.hid hhr.1
          have HKEY := Lib.hid (rkey_any t.text wr htl)
          clear hhr hE hr hmb hLR hi12 h12 c1 hf hLm hm hm0 hg1
          go_wp2_with fail
          refine HI.out.mono ?_
          rintro o w1 ⟨rfl, rfl⟩
          clear HI
          unfold strV at HKEY
          go_wp2_with fail
          refine HKEY.out.mono ?_
          rintro o w1 ⟨rfl, rfl⟩
          by_cases h0 : (0 : UInt8) ∈ t.text
          · rw [if_pos h0]
            have hmr := HMR.out
            rw [if_pos h0] at hmr
            obtain ⟨x1, hx1⟩ : ∃ x1 : PE Tok, x1 = .error (t.from_, 70) := ⟨_, rfl⟩
            rw [← hx1] at hmr
            have HX1 := Lib.hid hmr
            have HX : Hid (x1 = .ok t ∨ ∃ y, x1 = .error y) := Lib.hid (.inr ⟨_, hx1⟩)
            have HPN : Hid (∀ p, headP s true ks t = .ok p → False) := Lib.hid (fun p hp => by
              unfold headP at hp
              rw [if_neg (show ¬ true = false by decide)] at hp
              split at hp
              · cases hp
              · first | (rw [if_pos h0] at hp; cases hp) | cases hp)
            have HFX := Lib.hid (rfail_any s (.ok t) m R t.from_ 70 (by decide) wr HMB.out.s)
            have HXE := Lib.hid hx1
            clear hmr hx1 h0 HMR HKEY
            go_wp2_with fail
            refine HFX.out.mono ?_
            rintro o w3 ⟨rfl, hs3, ht3⟩
            have hm3 := HMB.out.step hs3 ht3
            rw [show failP (.ok t) t.from_ 70 = x1 from HXE.out.symm] at hm3
            clear HMB hs3 ht3 HFX HXE
            have HMB := Lib.hid hm3
            clear hm3
            go_wp2_with fail
            go_loopw [7] (fun i wz => ∃ j : Nat, i = .int .i64 j ∧ j ≤ ks.length ∧ MB w R s m (if t.text ∈ ks.take j then failP x1 t.from_ 71 else x1) ks L (.slice Ak ks.length ck) (.slice Al L.length cl) xs bl wz) (fun i _ => ks.length - (intOf i).toNat)
            case atStart => exact ⟨0, rfl, Nat.zero_le _, by rw [List.take_zero, if_neg (by simp)]; exact HMB.out⟩
            case round =>
              obtain ⟨wz, rfl⟩ : ∃ x, x = wr := ⟨_, rfl⟩
              clear HMB
              obtain ⟨j, rfl, hj, hmb⟩ := hrel
              have HMB := Lib.hid hmb
              have o4 : wz.cell? ⟨w.heap.size + 1, 4, none⟩ = some (.slice Ak ks.length ck) := cell_of_row _ _ _ _ _ _ hmb.o
              have hk4 : ks.length ≤ 4096 := by have := HKL.out; have := HBD.out.2.1; have := HBD.out.2.2.1; omega
              by_cases hlt : j < ks.length
              · have hltz : (j : Int) < (ks.length : Int) := by omega
                have hq1 : IntKind.i64.wrap ((j : Int) + 1) = (j : Int) + 1 := IntWalk.i64_in _ (by omega)
                obtain ⟨gk, rfl, hgk, hcell⟩ := row_cell hmb.k.k (by omega)
                have hkc : wz.cell? ⟨gk, j, none⟩ = some (.string ⟨ks[j].toArray⟩) := by
                  rw [hcell j (by omega), List.getElem?_map, List.getElem?_eq_getElem hlt]
                  rfl
                have hx' : (if t.text ∈ ks.take j then failP x1 t.from_ 71 else x1) = .ok t ∨ ∃ y, (if t.text ∈ ks.take j then failP x1 t.from_ 71 else x1) = .error y := by
                  cases x1 with
                  | error y => exact .inr ⟨y, by split <;> rfl⟩
                  | ok u =>
                    split
                    · exact .inr ⟨_, rfl⟩
                    · exact .inl (by rcases HX.out with h | ⟨y, h⟩; exact h; cases h)
                obtain ⟨t', a', e', hr⟩ := hmb.s.row
                have hff := fail_from hx' hmb.s hr 71
                obtain ⟨-, -, c2, -⟩ := hr.cells
                have htm := take_mem (k := t.text) hlt
                have HFX := Lib.hid (rfail_any s _ m R t'.from_ 71 (by decide) wz hmb.s)
                have hcap : ks.length ≤ ck ∧ ck ≤ maxLen := by
                  rcases hmb.k.k.2 with ⟨e, -⟩ | ⟨g3, c3, cur, e, -, -, h1, h2, -⟩
                  · cases e
                  · injection e with e1 e2 e3
                    subst e3
                    exact ⟨h1, h2⟩
                have HCAP := Lib.hid hcap
                generalize ks[j] = kj at *
                by_cases hkj : kj = t.text
                · have hqq : (kj == t.text) = true := by simp [hkj]
                  have HNEW : Hid ((if t.text ∈ ks.take (j + 1) then failP x1 t.from_ 71 else x1) = failP (if t.text ∈ ks.take j then failP x1 t.from_ 71 else x1) t'.from_ 71) := Lib.hid (by
                    rw [hff, if_pos (by rw [htm]; exact .inr hkj)]
                    split
                    · cases x1 <;> rfl
                    · rfl)
                  clear hmb hx' hr hff htm hkj hcap hcell
                  go_wp2_with fail
                  refine HFX.out.mono ?_
                  rintro o w5 ⟨rfl, hs5, ht5⟩
                  have HM5 := Lib.hid (HMB.out.step hs5 ht5)
                  clear hs5 ht5 HFX
                  go_wp2_with fail
                  go_roundw
                  case rel => exact ⟨j + 1, by go_num, by omega, by rw [HNEW.out]; exact HM5.out⟩
                  case measure => simp only [intOf]; omega
                · have hqq : (kj == t.text) = false := by simp [hkj]
                  have HNEW : Hid ((if t.text ∈ ks.take (j + 1) then failP x1 t.from_ 71 else x1) = (if t.text ∈ ks.take j then failP x1 t.from_ 71 else x1)) := Lib.hid (by
                    by_cases hm : t.text ∈ ks.take j
                    · rw [if_pos hm, if_pos (by rw [htm]; exact .inl hm)]
                    · rw [if_neg hm, if_neg (by rw [htm]; rintro (h | h); exact hm h; exact hkj h)])
                  clear hmb hx' hr hff htm hkj hcap hcell HFX c2
                  go_wp2_with fail
                  go_roundw
                  case rel => exact ⟨j + 1, by go_num, by omega, by rw [HNEW.out]; exact HMB.out⟩
                  case measure => simp only [intOf]; omega
              · have hltz : ¬ (j : Int) < (ks.length : Int) := by omega
                have hje : j = ks.length := by omega
                have HM2 : Hid (MB w R s m (if t.text ∈ ks then failP x1 t.from_ 71 else x1) ks L (.slice Ak ks.length ck) (.slice Al L.length cl) xs bl wz) := Lib.hid (by
                  have := HMB.out
                  rw [hje, List.take_length] at this
                  exact this)
                clear hmb HMB hje
                have HNX := Lib.hid (rnextr_any s _ m R wz HM2.out.s hl)
                have HX2 := Lib.hid (HX1.out)
                generalize (if t.text ∈ ks then failP x1 t.from_ 71 else x1) = x2 at *
                go_wp2_with fail
                refine HNX.out.mono ?_
                rintro o w5 ⟨rfl, hs5, ht5⟩
                have HM5 := Lib.hid (HM2.out.step hs5 ht5)
                clear hs5 ht5 HNX HM2 o4
                go_wp2_with fail
                refine (rmust_any s _ m R 6 w5 HM5.out.s hl).mono ?_
                rintro o w6 ⟨rfl, hs6, ht6⟩
                have hm6 := HM5.out.step hs6 ht6
                rw [HX2.out] at hm6
                clear hs6 ht6 HM5
                cases hh : headP s true ks t with
                | error y =>
                  rw [hh] at hm6
                  dsimp only at hm6
                  obtain ⟨h0, t5, hr5⟩ := hm6.s
                  obtain ⟨-, -, -, -, -, -, -, -, -, c9, -⟩ := hr5.cells
                  have ez : (y.2 != 0) = true := by simp [h0]
                  have HMB := Lib.hid hm6
                  have HRES := Lib.hid (HEACH.out.1 y hh)
                  clear hm6 h0 hr5 hh
                  obtain ⟨y1, y2⟩ := y
                  dsimp only at ez c9
                  obtain ⟨o0, o1, o2, o3, o4, o5⟩ := cells6 (show w6.heap[w.heap.size + 1]? = some (.cells #[.int .i64 17, .int .i64 0, .int .u64 0, .string ⟨#[]⟩, (.slice Ak ks.length ck), (.slice Al L.length cl)] 27 (0, 0)) from HMB.out.o)
                  obtain ⟨z0, z1, z2, z3, z4, z5⟩ := cells6 (show w6.heap[w.heap.size]? = some (.cells #[.int .i64 0, .int .i64 0, .int .u64 0, .string ⟨#[]⟩, .slice none 0 0, .slice none 0 0] 27 (0, 0)) from HMB.out.z)
                  have fz : ∀ i, w6.frozen? ⟨w.heap.size, i, none⟩ = false := fun i => frozen_of_row _ _ _ _ _ HMB.out.z
                  have fz0 := fz 0
                  have fz1 := fz 1
                  have fz2 := fz 2
                  have fz3 := fz 3
                  have fz4 := fz 4
                  have fz5 := fz 5
                  clear fz
                  go_wp2_with fail
                  (refine bodyPost_ret (v := .agg #[.int .i64 17, .int .i64 0, .int .u64 0, .string ⟨#[]⟩, (.slice Ak ks.length ck), (.slice Al L.length cl)]) (by simp [results, Tryz.results59, go_sem, *]) rfl ?_)
                  obtain ⟨q1, q2, q3⟩ := HMB.out.fin
                  rw [HRES.out]
                  exact ⟨q1, ks, L, _, rfl, q2, m, q3⟩
                | ok p =>
                  exact absurd (HPN.out p hh) id
          · rw [if_neg h0]
            have hmr := HMR.out
            rw [if_neg h0] at hmr
            obtain ⟨x1, hx1⟩ : ∃ x1 : PE Tok, x1 = .ok t := ⟨_, rfl⟩
            rw [← hx1] at hmr
            have HX1 := Lib.hid hmr
            have HX : Hid (x1 = .ok t ∨ ∃ y, x1 = .error y) := Lib.hid (.inl hx1)
            have hmbx := HMB.out
            rw [← hx1] at hmbx
            clear hmr hx1 h0 HMR HKEY HMB
            have HMB := Lib.hid hmbx
            clear hmbx
            go_wp2_with fail
            go_loopw [7] (fun i wz => ∃ j : Nat, i = .int .i64 j ∧ j ≤ ks.length ∧ MB w R s m (if t.text ∈ ks.take j then failP x1 t.from_ 71 else x1) ks L (.slice Ak ks.length ck) (.slice Al L.length cl) xs bl wz) (fun i _ => ks.length - (intOf i).toNat)
            case atStart => exact ⟨0, rfl, Nat.zero_le _, by rw [List.take_zero, if_neg (by simp)]; exact HMB.out⟩
            case round =>
              obtain ⟨wz, rfl⟩ : ∃ x, x = wr := ⟨_, rfl⟩
              clear HMB
              obtain ⟨j, rfl, hj, hmb⟩ := hrel
              have HMB := Lib.hid hmb
              have o4 : wz.cell? ⟨w.heap.size + 1, 4, none⟩ = some (.slice Ak ks.length ck) := cell_of_row _ _ _ _ _ _ hmb.o
              have hk4 : ks.length ≤ 4096 := by have := HKL.out; have := HBD.out.2.1; have := HBD.out.2.2.1; omega
              by_cases hlt : j < ks.length
              · have hltz : (j : Int) < (ks.length : Int) := by omega
                have hq1 : IntKind.i64.wrap ((j : Int) + 1) = (j : Int) + 1 := IntWalk.i64_in _ (by omega)
                obtain ⟨gk, rfl, hgk, hcell⟩ := row_cell hmb.k.k (by omega)
                have hkc : wz.cell? ⟨gk, j, none⟩ = some (.string ⟨ks[j].toArray⟩) := by
                  rw [hcell j (by omega), List.getElem?_map, List.getElem?_eq_getElem hlt]
                  rfl
                have hx' : (if t.text ∈ ks.take j then failP x1 t.from_ 71 else x1) = .ok t ∨ ∃ y, (if t.text ∈ ks.take j then failP x1 t.from_ 71 else x1) = .error y := by
                  cases x1 with
                  | error y => exact .inr ⟨y, by split <;> rfl⟩
                  | ok u =>
                    split
                    · exact .inr ⟨_, rfl⟩
                    · exact .inl (by rcases HX.out with h | ⟨y, h⟩; exact h; cases h)
                obtain ⟨t', a', e', hr⟩ := hmb.s.row
                have hff := fail_from hx' hmb.s hr 71
                obtain ⟨-, -, c2, -⟩ := hr.cells
                have htm := take_mem (k := t.text) hlt
                have HFX := Lib.hid (rfail_any s _ m R t'.from_ 71 (by decide) wz hmb.s)
                have hcap : ks.length ≤ ck ∧ ck ≤ maxLen := by
                  rcases hmb.k.k.2 with ⟨e, -⟩ | ⟨g3, c3, cur, e, -, -, h1, h2, -⟩
                  · cases e
                  · injection e with e1 e2 e3
                    subst e3
                    exact ⟨h1, h2⟩
                have HCAP := Lib.hid hcap
                generalize ks[j] = kj at *
                by_cases hkj : kj = t.text
                · have hqq : (kj == t.text) = true := by simp [hkj]
                  have HNEW : Hid ((if t.text ∈ ks.take (j + 1) then failP x1 t.from_ 71 else x1) = failP (if t.text ∈ ks.take j then failP x1 t.from_ 71 else x1) t'.from_ 71) := Lib.hid (by
                    rw [hff, if_pos (by rw [htm]; exact .inr hkj)]
                    split
                    · cases x1 <;> rfl
                    · rfl)
                  clear hmb hx' hr hff htm hkj hcap hcell
                  go_wp2_with fail
                  refine HFX.out.mono ?_
                  rintro o w5 ⟨rfl, hs5, ht5⟩
                  have HM5 := Lib.hid (HMB.out.step hs5 ht5)
                  clear hs5 ht5 HFX
                  go_wp2_with fail
                  go_roundw
                  case rel => exact ⟨j + 1, by go_num, by omega, by rw [HNEW.out]; exact HM5.out⟩
                  case measure => simp only [intOf]; omega
                · have hqq : (kj == t.text) = false := by simp [hkj]
                  have HNEW : Hid ((if t.text ∈ ks.take (j + 1) then failP x1 t.from_ 71 else x1) = (if t.text ∈ ks.take j then failP x1 t.from_ 71 else x1)) := Lib.hid (by
                    by_cases hm : t.text ∈ ks.take j
                    · rw [if_pos hm, if_pos (by rw [htm]; exact .inl hm)]
                    · rw [if_neg hm, if_neg (by rw [htm]; rintro (h | h); exact hm h; exact hkj h)])
                  clear hmb hx' hr hff htm hkj hcap hcell HFX c2
                  go_wp2_with fail
                  go_roundw
                  case rel => exact ⟨j + 1, by go_num, by omega, by rw [HNEW.out]; exact HMB.out⟩
                  case measure => simp only [intOf]; omega
              · have hltz : ¬ (j : Int) < (ks.length : Int) := by omega
                have hje : j = ks.length := by omega
                have HM2 : Hid (MB w R s m (if t.text ∈ ks then failP x1 t.from_ 71 else x1) ks L (.slice Ak ks.length ck) (.slice Al L.length cl) xs bl wz) := Lib.hid (by
                  have := HMB.out
                  rw [hje, List.take_length] at this
                  exact this)
                clear hmb HMB hje
                have HNX := Lib.hid (rnextr_any s _ m R wz HM2.out.s hl)
                have HX2 := Lib.hid (HX1.out)
                generalize (if t.text ∈ ks then failP x1 t.from_ 71 else x1) = x2 at *
                go_wp2_with fail
                refine HNX.out.mono ?_
                rintro o w5 ⟨rfl, hs5, ht5⟩
                have HM5 := Lib.hid (HM2.out.step hs5 ht5)
                clear hs5 ht5 HNX HM2 o4
                go_wp2_with fail
                refine (rmust_any s _ m R 6 w5 HM5.out.s hl).mono ?_
                rintro o w6 ⟨rfl, hs6, ht6⟩
                have hm6 := HM5.out.step hs6 ht6
                rw [HX2.out] at hm6
                clear hs6 ht6 HM5
                cases hh : headP s true ks t with
                | error y =>
                  rw [hh] at hm6
                  dsimp only at hm6
                  obtain ⟨h0, t5, hr5⟩ := hm6.s
                  obtain ⟨-, -, -, -, -, -, -, -, -, c9, -⟩ := hr5.cells
                  have ez : (y.2 != 0) = true := by simp [h0]
                  have HMB := Lib.hid hm6
                  have HRES := Lib.hid (HEACH.out.1 y hh)
                  clear hm6 h0 hr5 hh
                  obtain ⟨y1, y2⟩ := y
                  dsimp only at ez c9
                  obtain ⟨o0, o1, o2, o3, o4, o5⟩ := cells6 (show w6.heap[w.heap.size + 1]? = some (.cells #[.int .i64 17, .int .i64 0, .int .u64 0, .string ⟨#[]⟩, (.slice Ak ks.length ck), (.slice Al L.length cl)] 27 (0, 0)) from HMB.out.o)
                  obtain ⟨z0, z1, z2, z3, z4, z5⟩ := cells6 (show w6.heap[w.heap.size]? = some (.cells #[.int .i64 0, .int .i64 0, .int .u64 0, .string ⟨#[]⟩, .slice none 0 0, .slice none 0 0] 27 (0, 0)) from HMB.out.z)
                  have fz : ∀ i, w6.frozen? ⟨w.heap.size, i, none⟩ = false := fun i => frozen_of_row _ _ _ _ _ HMB.out.z
                  have fz0 := fz 0
                  have fz1 := fz 1
                  have fz2 := fz 2
                  have fz3 := fz 3
                  have fz4 := fz 4
                  have fz5 := fz 5
                  clear fz
                  go_wp2_with fail
                  (refine bodyPost_ret (v := .agg #[.int .i64 17, .int .i64 0, .int .u64 0, .string ⟨#[]⟩, (.slice Ak ks.length ck), (.slice Al L.length cl)]) (by simp [results, Tryz.results59, go_sem, *]) rfl ?_)
                  obtain ⟨q1, q2, q3⟩ := HMB.out.fin
                  rw [HRES.out]
                  exact ⟨q1, ks, L, _, rfl, q2, m, q3⟩
                | ok p =>
                  obtain ⟨ks1, t1⟩ := p
                  rw [hh] at hm6
                  dsimp only at hm6
                  have hks1 := HEQ2.out _ hh
                  dsimp only at hks1
                  have HMB := Lib.hid hm6
                  have hr5 : RRow w6 R s t1 m 0 0 := hm6.s
                  obtain ⟨-, -, -, -, -, -, -, c76, -, c9, -⟩ := hr5.cells
                  have HVX := Lib.hid (HVV.out g1 (by have := HG1.out; omega) (dp + 1) t1 m R w6 hm6.s HBD.out.1 HBD.out.2.1 (by have := HBD.out.2.2.2; push_cast at this; omega) (by have := HDD.out.1; omega) (by have := HDD.out.2; omega))
                  have HONE := Lib.hid (HEACH.out.2 ks1 t1 hh)
                  generalize valP s g1 (dp + 1) t1 m = r at *
                  subst hks1
                  clear hm6 hr5 hh
                  go_upto_region 22 with (go_at_call 30; refine HVX.out.mono ?_; clear HVX; rintro e w7 ⟨ht7, T, v1, rfl, ⟨y0, y1, y2, y3, y4, y5, bs, rfl, hn7, hnd7, hge7⟩, hpo7⟩; obtain ⟨kd1, nn1, uu1, s1, B1, m1, d1, B2, m2, d2, rfl, rfl, rfl, rfl, rfl, rfl⟩ := hn7.form2; have HN7 := Lib.hid (And.intro hn7 (And.intro hnd7 hge7)); have HT7 := Lib.hid ht7; have HPO := Lib.hid hpo7; clear ht7 hpo7 hn7 hnd7 hge7)
                  have hrel : ∃ (x5 : PE Tok) (mm : Int), RSt w7 R s mm x5 ∧ (isP x5 5 = true → m < mm ∧ mm ≤ 4096 ∧ LRel s g true dp res (nextS s x5) mm (ks ++ [t.text]) (L ++ [T])) ∧ (isP x5 5 = false → match mustS s x5 2 with
                      | .error y => res = .error y
                      | .ok t3 => res = .ok (ks ++ [t.text], L ++ [T], t3, mm)) := by
                    have hp := HPO.out
                    have ho := HONE.out
                    cases r with
                    | error y =>
                      obtain ⟨mm, hs1⟩ := hp
                      exact ⟨.error y, mm, hs1, fun h => (by cases h), fun _ => ho⟩
                    | ok q =>
                      obtain ⟨T', t2, mm⟩ := q
                      obtain ⟨rfl, hs1⟩ := hp
                      obtain ⟨a1, a2, a3, a4⟩ := ho
                      exact ⟨.ok t2, mm, hs1, fun h => ⟨a1, a2, a3 (by simpa [isP] using h)⟩, fun h => a4 (by simpa [isP] using h)⟩
                  obtain ⟨x5, mm, hs5, hA, hB⟩ := hrel
                  have hm7 := HMB.out.step hs5 HT7.out
                  have hba := (Below.refl w7.heap.size w7).alloc (Nat.le_refl _) (.cells #[.int .i64 kd1, .int .i64 nn1, .int .u64 uu1, .string s1, .slice B1 m1 d1, .slice B2 m2 d2] 27)
                  have hsz8 : (w7.alloc (.cells #[.int .i64 kd1, .int .i64 nn1, .int .u64 uu1, .string s1, .slice B1 m1 d1, .slice B2 m2 d2] 27)).heap.size = w7.heap.size + 1 := World.size_alloc _ _
                  have hm8 := hm7.step (hm7.s.below hba) (Touch.quiet hba)
                  have hlt6 : ∀ i ∈ blkL (.slice Ak ks.length ck) ++ (blkL (.slice Al L.length cl) ++ bl), i < w6.heap.size := HMB.out.k.lt
                  have hsz6 := HMB.out.n
                  have hge8 : ∀ i ∈ bs, w6.heap.size ≤ i := HN7.out.2.2
                  have hn8 := HN7.out.1.below hba
                  have hnd8 := HN7.out.2.1
                  have hX8 : (w7.alloc (.cells #[.int .i64 kd1, .int .i64 nn1, .int .u64 uu1, .string s1, .slice B1 m1 d1, .slice B2 m2 d2] 27)).heap[w7.heap.size]? = some (.cells #[.int .i64 kd1, .int .i64 nn1, .int .u64 uu1, .string s1, .slice B1 m1 d1, .slice B2 m2 d2] 27 (0, 0)) := heap_alloc_new _ _
                  have hX7 : w6.heap.size ≤ w7.heap.size := HT7.out.size
                  refine wp_named (fun w8 => MB w R s mm x5 ks L (.slice Ak ks.length ck) (.slice Al L.length cl) xs bl w8 ∧ NRep w8 T [.int .i64 kd1, .int .i64 nn1, .int .u64 uu1, .string s1, .slice B1 m1 d1, .slice B2 m2 d2] bs ∧ w8.heap[w7.heap.size]? = some (.cells #[.int .i64 kd1, .int .i64 nn1, .int .u64 uu1, .string s1, .slice B1 m1 d1, .slice B2 m2 d2] 27 (0, 0))) ⟨hm8, hn8, hX8⟩ ?_
                  clear hba hsz8 hm8 hm7 hn8 hX8 hs5 HMB HT7 HN7 HPO HONE c9 HEACH HEQ2
                  generalize w7.heap.size = X at *
                  rintro wv ⟨hmv, hnv, hXv⟩
                  have HA := Lib.hid hA
                  have HB := Lib.hid hB
                  have HMV := Lib.hid hmv
                  clear hA hB
                  have HDB : Hid ((∀ i ∈ bs, w.heap.size + 2 ≤ i) ∧ ∀ i ∈ bs, i ∉ blkL (.slice Ak ks.length ck) ++ (blkL (.slice Al L.length cl) ++ bl)) := Lib.hid ⟨fun i hi => by have := hge8 i hi; omega, fun i hi hm => by have := hge8 i hi; have := hlt6 i hm; omega⟩
                  have hkl : ∀ i ∈ blkL (.slice Ak ks.length ck) ++ blkL (.slice Al L.length cl), i < wv.heap.size := fun i hi => hmv.k.lt i (by simp only [List.mem_append] at hi ⊢; rcases hi with hi | hi; exact .inl hi; exact .inr (.inl hi))
                  have hkX : ∀ i ∈ blkL (.slice Ak ks.length ck) ++ blkL (.slice Al L.length cl), i ≠ X := fun i hi e => by have := hlt6 i (by simp only [List.mem_append] at hi ⊢; rcases hi with hi | hi; exact .inl hi; exact .inr (.inl hi)); omega
                  have hkO : ∀ i ∈ blkL (.slice Ak ks.length ck) ++ blkL (.slice Al L.length cl), i ≠ w.heap.size + 1 := fun i hi e => by have := hmv.k.ge i (by simp only [List.mem_append] at hi ⊢; rcases hi with hi | hi; exact .inl hi; exact .inr (.inl hi)); omega
                  have hdis : ∀ i ∈ blkL (.slice Ak ks.length ck), i ∉ blkL (.slice Al L.length cl) := fun i hi hm => by
                    have hn := hmv.k.nd
                    rw [List.nodup_append] at hn
                    exact hn.2.2 i hi i (by simp [hm]) rfl
                  obtain ⟨i0, hii, hz0, hz1, hz2⟩ := info_parts nodeInfo
                  obtain ⟨i1, hi', hz0', hz1', hz2'⟩ := info_parts strInfo
                  have H63 : L.length + 1 ≤ maxLen := by have := HBD.out.2.1; have := HBD.out.2.2.1; unfold maxLen; omega
                  have HBY : (L.length + 1) * 88 ≤ 140737488355328 := by have := HBD.out.2.1; have := HBD.out.2.2.1; omega
                  have H63k : ks.length + 1 ≤ maxLen := by have := HKL.out; have := HBD.out.2.1; have := HBD.out.2.2.1; unfold maxLen; omega
                  have HBYk : (ks.length + 1) * 16 ≤ 140737488355328 := by have := HKL.out; have := HBD.out.2.1; have := HBD.out.2.2.1; omega
                  have HOW : ∀ (W : World), Touch (blkL (.slice Ak ks.length ck) ++ blkL (.slice Al L.length cl)) wv W → W.heap[w.heap.size + 1]? = some (.cells (outC 17 (.slice Ak ks.length ck) (.slice Al L.length cl)) 27 (0, 0)) := fun W ht => (ht.block _ (Array.getElem?_eq_some_iff.1 hmv.o).1 (fun hm => hkO _ hm rfl)).trans hmv.o
                  have HXW : ∀ (W : World), Touch (blkL (.slice Ak ks.length ck) ++ blkL (.slice Al L.length cl)) wv W → W.heap[X]? = some (.cells #[.int .i64 kd1, .int .i64 nn1, .int .u64 uu1, .string s1, .slice B1 m1 d1, .slice B2 m2 d2] 27 (0, 0)) := fun W ht => (ht.block _ (Array.getElem?_eq_some_iff.1 hXv).1 (fun hm => hkX _ hm rfl)).trans hXv
                  generalize hKK : t.text = KK at *
                  refine wp_region_stageP (n := 106) [83, 84, 85, 86, 87, 88, 89, 90, 91, 92, 9, 10] (by kernel_rfl) (lightQ (w.heap.size + 1) X KK (.slice Ak ks.length ck) (.slice Al L.length cl) (.agg #[.int .i64 kd1, .int .i64 nn1, .int .u64 uu1, .string s1, .slice B1 m1 d1, .slice B2 m2 d2])) [3, 4, 8, 9, 10, 11] (StP wv KK ks L (.slice Ak ks.length ck) (.slice Al L.length cl) xs [.int .i64 kd1, .int .i64 nn1, .int .u64 uu1, .string s1, .slice B1 m1 d1, .slice B2 m2 d2]) (by kernel_rfl) (by kernel_rfl) rfl (StQ_sc wv (w.heap.size + 1) X (.agg #[.int .i64 kd1, .int .i64 nn1, .int .u64 uu1, .string s1, .slice B1 m1 d1, .slice B2 m2 d2]) KK ks L (.slice Ak ks.length ck) (.slice Al L.length cl) xs [.int .i64 kd1, .int .i64 nn1, .int .u64 uu1, .string s1, .slice B1 m1 d1, .slice B2 m2 d2]) ?_ ?_ ?_ ?_ ?_ ?_
                  · intro t V hl ht
                    unfold lightQ at hl
                    split at hl
                    · cases hl; rfl
                    · cases hl; rfl
                    · cases hl; rfl
                    · exact absurd rfl (ht 0 _ rfl)
                    · exact absurd rfl (ht 1 _ rfl)
                    · exact absurd rfl (ht 2 _ rfl)
                    · exact absurd rfl (ht 5 _ rfl)
                    · exact absurd rfl (ht 6 _ rfl)
                    · exact absurd rfl (ht 7 _ rfl)
                    · cases hl
                  · exact ⟨(Touch.drew wv _), fun _ => ⟨fun _ _ => rfl, fun h => (by cases h)⟩, fun h => (by cases h), fun _ => ⟨fun _ _ => rfl, fun h => (by cases h)⟩, fun h => (by cases h), fun h => (by cases h), fun h => (by cases h), fun h => (by cases h)⟩
                  · intro jq oq hjq hns
                    match jq, hjq, hns with
                    | 0, hjq, _ =>
                      simp only [List.getElem?_toArray, List.getElem?_cons_zero, List.getElem?_cons_succ, Option.some.injEq] at hjq
                      subst hjq
                      exact ⟨83, _, rfl, rfl, fun D a w hS hall hDi hcl hk => ⟨rfl, opwp_faN4 rfl (hk 5 (by decide) _ rfl) ⟨rfl, rfl⟩⟩⟩
                    | 1, hjq, _ =>
                      simp only [List.getElem?_toArray, List.getElem?_cons_zero, List.getElem?_cons_succ, Option.some.injEq] at hjq
                      subst hjq
                      exact ⟨84, _, rfl, rfl, fun D a w hS hall hDi hcl hk => ⟨rfl, opwp_ldT rfl (hk 83 (by decide) _ rfl) (cell_of_row _ _ _ _ _ _ (HOW w hS.t)) ⟨rfl, rfl⟩⟩⟩
                    | 2, hjq, _ =>
                      simp only [List.getElem?_toArray, List.getElem?_cons_zero, List.getElem?_cons_succ, Option.some.injEq] at hjq
                      subst hjq
                      exact ⟨85, _, rfl, rfl, fun D a w hS hall hDi hcl hk => ⟨rfl, opwp_move rfl (hk 6 (by decide) _ rfl) ⟨rfl, rfl⟩⟩⟩
                    | 5, hjq, _ =>
                      simp only [List.getElem?_toArray, List.getElem?_cons_zero, List.getElem?_cons_succ, Option.some.injEq] at hjq
                      subst hjq
                      exact ⟨88, _, rfl, rfl, fun D a w hS hall hDi hcl hk => ⟨rfl, opwp_faN5 rfl (hk 5 (by decide) _ rfl) ⟨rfl, rfl⟩⟩⟩
                    | 6, hjq, _ =>
                      simp only [List.getElem?_toArray, List.getElem?_cons_zero, List.getElem?_cons_succ, Option.some.injEq] at hjq
                      subst hjq
                      exact ⟨89, _, rfl, rfl, fun D a w hS hall hDi hcl hk => ⟨rfl, opwp_ldL rfl (hk 88 (by decide) _ rfl) (cell_of_row _ _ _ _ _ _ (HOW w hS.t)) ⟨rfl, rfl⟩⟩⟩
                    | 7, hjq, _ =>
                      simp only [List.getElem?_toArray, List.getElem?_cons_zero, List.getElem?_cons_succ, Option.some.injEq] at hjq
                      subst hjq
                      exact ⟨90, _, rfl, rfl, fun D a w hS hall hDi hcl hk => ⟨rfl, opwp_ld6 rfl (hk 8 (by decide) _ rfl) (HXW w hS.t) ⟨rfl, rfl⟩⟩⟩
                    | 3, _, h | 4, _, h | 8, _, h | 9, _, h | 10, _, h | 11, _, h => exact absurd (by decide) h
                    | kq + 12, hjq, _ => cases hjq
                  · intro jq oq hjq hsp d hd
                    simp only [List.mem_cons, List.not_mem_nil, or_false] at hsp
                    rcases hsp with rfl | rfl | rfl | rfl | rfl | rfl
                    all_goals
                      simp only [List.getElem?_toArray, List.getElem?_cons_zero, List.getElem?_cons_succ, Option.some.injEq] at hjq
                      subst hjq
                      cases hd
                    all_goals rfl
                  · intro jq oq hjq hsp D a w had hS hall hDi hcl hk
                    simp only [List.mem_cons, List.not_mem_nil, or_false] at hsp
                    rcases hsp with rfl | rfl | rfl | rfl | rfl | rfl
                    · simp only [List.getElem?_toArray, List.getElem?_cons_zero, List.getElem?_cons_succ, Option.some.injEq] at hjq
                      subst hjq
                      have e85 : a.eval (.tmp 85) = .string ⟨KK.toArray⟩ := hk 85 (by decide) _ rfl
                      have hs := hS.t.size
                      refine ⟨rfl, opwp_bsT1 rfl e85 ⟨_, rfl, hS.alloc (D' := fun j => if j = 3 then true else D j) (ev' := fun t => if (some 86 : Option Tmp) = some t then _ else a.eval (.tmp t)) _ hkl rfl rfl rfl rfl rfl rfl rfl rfl (fun _ _ => ⟨w.heap.size, rfl, heap_alloc_new _ _, hs⟩) (fun h9 h8 => ?_)⟩⟩
                      obtain ⟨gl, q1, q2, q3⟩ := (hS.l0 h9).2 h8
                      exact ⟨gl, q1, (Below.heap_alloc w _ gl (Array.getElem?_eq_some_iff.1 q2).1).trans q2, q3⟩
                    · simp only [List.getElem?_toArray, List.getElem?_cons_zero, List.getElem?_cons_succ, Option.some.injEq] at hjq
                      subst hjq
                      have hd3 : D 3 = true := hall _ (Array.getElem_mem (i := 1) (by decide)) rfl
                      obtain ⟨hkk, hgk⟩ := hS.k0 hDi
                      obtain ⟨gk, e86, hgr, hgs⟩ := hgk hd3
                      have e84 : a.eval (.tmp 84) = .slice Ak ks.length ck := hk 84 (by decide) _ rfl
                      refine ⟨rfl, opwp_app 24 rfl 9 i1 (.string ⟨#[]⟩) 1 16 Tryz.underlying24 hi' hz0' hz1' hz2' rfl (by decide) (.slice Ak ks.length ck) ks.length (ks.map strV) e84 (own_same2 hmv.k.k hkk) ⟨gk, 0, none⟩ 1 1 [.string ⟨KK.toArray⟩] e86 rfl (row_at hgr) one_one H63k HBYk ?_⟩
                      intro v' w3 ho3 hg hwh
                      obtain ⟨A', c', rfl⟩ := owns_ptr ho3
                      exact ⟨_, rfl, hS.appK hkl hdis hDi ho3 hg hwh rfl rfl rfl rfl rfl rfl rfl rfl rfl⟩
                    · simp only [List.getElem?_toArray, List.getElem?_cons_zero, List.getElem?_cons_succ, Option.some.injEq] at hjq
                      subst hjq
                      have e90 : a.eval (.tmp 90) = .agg #[.int .i64 kd1, .int .i64 nn1, .int .u64 uu1, .string s1, .slice B1 m1 d1, .slice B2 m2 d2] := hk 90 (by decide) _ rfl
                      have hs := hS.t.size
                      refine ⟨rfl, opwp_bsN1 rfl e90 ⟨_, rfl, hS.alloc (D' := fun j => if j = 8 then true else D j) (ev' := fun t => if (some 91 : Option Tmp) = some t then _ else a.eval (.tmp t)) _ hkl rfl rfl rfl rfl rfl rfl rfl rfl (fun h4 h3 => ?_) (fun _ _ => ⟨w.heap.size, rfl, heap_alloc_new _ _, hs⟩)⟩⟩
                      obtain ⟨gl, q1, q2, q3⟩ := (hS.k0 h4).2 h3
                      exact ⟨gl, q1, (Below.heap_alloc w _ gl (Array.getElem?_eq_some_iff.1 q2).1).trans q2, q3⟩
                    · simp only [List.getElem?_toArray, List.getElem?_cons_zero, List.getElem?_cons_succ, Option.some.injEq] at hjq
                      subst hjq
                      have hd8 : D 8 = true := hall _ (Array.getElem_mem (i := 1) (by decide)) rfl
                      obtain ⟨hkk, hgk⟩ := hS.l0 hDi
                      obtain ⟨gl, e91, hgr, hgs⟩ := hgk hd8
                      have e89 : a.eval (.tmp 89) = .slice Al L.length cl := hk 89 (by decide) _ rfl
                      refine ⟨rfl, opwp_app 25 rfl 27 i0 (.agg #[.int .i64 0, .int .i64 0, .int .u64 0, .string ⟨#[]⟩, .slice none 0 0, .slice none 0 0]) 6 88 Tryz.underlying25 hii hz0 hz1 hz2 rfl (by decide) (.slice Al L.length cl) L.length xs e89 (own_same2 hmv.k.r hkk) ⟨gl, 0, none⟩ 1 1 [.int .i64 kd1, .int .i64 nn1, .int .u64 uu1, .string s1, .slice B1 m1 d1, .slice B2 m2 d2] e91 rfl (row_at hgr) six_one H63 HBY ?_⟩
                      intro v' w3 ho3 hg hwh
                      obtain ⟨A', c', rfl⟩ := owns_ptr ho3
                      exact ⟨_, rfl, hS.appL hkl hdis hDi ho3 hg hwh rfl rfl rfl rfl rfl rfl rfl rfl rfl⟩
                    · simp only [List.getElem?_toArray, List.getElem?_cons_zero, List.getElem?_cons_succ, Option.some.injEq] at hjq
                      subst hjq
                      have hd4 : D 4 = true := hall _ (Array.getElem_mem (i := 0) (by decide)) rfl
                      refine ⟨rfl, opwp_assign rfl rfl ⟨_, rfl, hS.t, hS.k0, hS.k1, hS.l0, hS.l1, hS.d, fun _ => ⟨hd4, rfl⟩, hS.a10⟩⟩
                    · simp only [List.getElem?_toArray, List.getElem?_cons_zero, List.getElem?_cons_succ, Option.some.injEq] at hjq
                      subst hjq
                      have hd9 : D 9 = true := hall _ (Array.getElem_mem (i := 0) (by decide)) rfl
                      refine ⟨rfl, opwp_assign rfl rfl ⟨_, rfl, hS.t, hS.k0, hS.k1, hS.l0, hS.l1, hS.d, hS.a9, fun _ => ⟨hd9, rfl⟩⟩⟩
                  · intro D f w9 hDD hlf hS
                    obtain ⟨A, c, A', c', e9, e10, hK9, ht9⟩ := hS.fin hmv.k hnv hnd8 HDB.out.1 HDB.out.2 (by have := hmv.n; omega) (hDD 4 (by decide)) (hDD 9 (by decide)) (hDD 10 (by decide)) (hDD 11 (by decide))
                    simp only [puts, List.foldl, Act.put, List.setIfInBounds_toArray, List.set_cons_zero, List.set_cons_succ]
                    simp only [e9, e10]
                    generalize f 83 = v83
                    generalize f 84 = v84
                    generalize f 85 = v85
                    generalize f 86 = v86
                    generalize f 87 = v87
                    generalize f 88 = v88
                    generalize f 89 = v89
                    generalize f 90 = v90
                    generalize f 91 = v91
                    generalize f 92 = v92
                    have hsz9 := ht9.size
                    have hn9 := hmv.n
                    have hs9 : RSt w9 R s mm x5 := hmv.s.same (ht9.block R hmv.s.lt (fun hm => by have := hmv.k.ge R (by simp only [List.mem_append] at hm ⊢; rcases hm with hm | hm; exact .inl hm; exact .inr (.inl hm)); have := hmv.l; omega))
                    have hT9 : Tch w.heap.size [R] w w9 := hmv.t.trans ⟨ht9.os, ht9.tape, ht9.output, ht9.size, fun i hi hn => ht9.block i (by omega) (fun hm => by have := hmv.k.ge i (by simp only [List.mem_append] at hm ⊢; rcases hm with hm | hm; exact .inl hm; exact .inr (.inl hm)); omega)⟩
                    have hZ9 : w9.heap[w.heap.size]? = some (.cells zC.toArray 27 (0, 0)) := (ht9.block _ (by omega) (fun hm => by have := hmv.k.ge _ (by simp only [List.mem_append] at hm ⊢; rcases hm with hm | hm; exact .inl hm; exact .inr (.inl hm)); omega)).trans hmv.z
                    have hO9 := HOW w9 ht9
                    have o4 : w9.cell? ⟨w.heap.size + 1, 4, none⟩ = some (.slice Ak ks.length ck) := cell_of_row _ _ _ _ _ _ hO9
                    have o5 : w9.cell? ⟨w.heap.size + 1, 5, none⟩ = some (.slice Al L.length cl) := cell_of_row _ _ _ _ _ _ hO9
                    have fo4 : w9.frozen? ⟨w.heap.size + 1, 4, none⟩ = false := frozen_of_row _ _ _ _ _ hO9
                    have fo5 : w9.frozen? ⟨w.heap.size + 1, 5, none⟩ = false := frozen_of_row _ _ _ _ _ hO9
                    have hmf := members_set hs9 hT9 hZ9 hO9 hK9 hmv.l (by omega)
                    have HMF := Lib.hid hmf
                    clear hS hs9 hT9 hZ9 hO9 hK9 ht9 hmf HOW HXW hmv hnv hXv hkl hkX hkO hdis hDD hlf e9 e10 hsz9 hn9
                    go_upto_region 25 with fail
                    refine wp_named (fun w10 => MB w R s mm x5 (ks ++ [KK]) (L ++ [T]) (.slice A (ks.length + 1) c) (.slice A' (L.length + 1) c') (xs ++ [.int .i64 kd1, .int .i64 nn1, .int .u64 uu1, .string s1, .slice B1 m1 d1, .slice B2 m2 d2]) (bl ++ bs) w10) HMF.out ?_
                    clear HMF o4 o5 fo4 fo5
                    rintro w10 hm10
                    have HMB := Lib.hid hm10
                    have HI5 := Lib.hid (risr_any s x5 mm R 5 w10 hm10.s)
                    clear hm10
                    cases hi5 : isP x5 5 with
                    | false =>
                      rw [hi5] at HI5
                      have HB2 := Lib.hid (HB.out hi5)
                      clear HA HB hi5
                      go_wp2_with fail
                      refine HI5.out.mono ?_
                      rintro o w11 ⟨rfl, rfl⟩
                      go_wp2_with fail
                      refine (rmust_any s x5 mm R 2 w10 HMB.out.s hl).mono ?_
                      rintro o w12 ⟨rfl, hs12, ht12⟩
                      have hm12 := HMB.out.step hs12 ht12
                      clear HMB hs12 ht12 HI5
                      have HMB := Lib.hid hm12
                      clear hm12
                      obtain ⟨o0, o1, o2, o3, o4, o5⟩ := cells6 (show w12.heap[w.heap.size + 1]? = some (.cells #[.int .i64 17, .int .i64 0, .int .u64 0, .string ⟨#[]⟩, (.slice A (ks.length + 1) c), (.slice A' (L.length + 1) c')] 27 (0, 0)) from HMB.out.o)
                      obtain ⟨z0, z1, z2, z3, z4, z5⟩ := cells6 (show w12.heap[w.heap.size]? = some (.cells #[.int .i64 0, .int .i64 0, .int .u64 0, .string ⟨#[]⟩, .slice none 0 0, .slice none 0 0] 27 (0, 0)) from HMB.out.z)
                      have fz : ∀ i, w12.frozen? ⟨w.heap.size, i, none⟩ = false := fun i => frozen_of_row _ _ _ _ _ HMB.out.z
                      have fz0 := fz 0
                      have fz1 := fz 1
                      have fz2 := fz 2
                      have fz3 := fz 3
                      have fz4 := fz 4
                      have fz5 := fz 5
                      clear fz
                      go_wp2_with fail
                      (refine bodyPost_ret (v := .agg #[.int .i64 17, .int .i64 0, .int .u64 0, .string ⟨#[]⟩, (.slice A (ks.length + 1) c), (.slice A' (L.length + 1) c')]) (by simp [results, Tryz.results59, go_sem, *]) rfl ?_)
                      obtain ⟨q1, q2, q3⟩ := HMB.out.fin
                      have hb := HB2.out
                      cases hq : mustS s x5 2 with
                      | error y =>
                        rw [hq] at hb q3
                        rw [hb]
                        exact ⟨q1, _, _, _, rfl, q2, _, q3⟩
                      | ok t3 =>
                        rw [hq] at hb q3
                        rw [hb]
                        exact ⟨q1, _, _, _, rfl, q2, rfl, rfl, q3⟩
                    | true =>
                      rw [hi5] at HI5
                      have HA2 := Lib.hid (HA.out hi5)
                      clear HA HB hi5
                      go_wp2_with fail
                      refine HI5.out.mono ?_
                      rintro o w11 ⟨rfl, rfl⟩
                      go_wp2_with fail
                      refine (rnextr_any s x5 mm R w10 HMB.out.s hl).mono ?_
                      rintro o w12 ⟨rfl, hs12, ht12⟩
                      have hm12 := HMB.out.step hs12 ht12
                      have c712 := hs12.many
                      have hmeas := HA2.out.1
                      have hme2 := HA2.out.2.1
                      have hm00 := HBD.out.1
                      have HM12 := Lib.hid hm12
                      clear HMB hs12 ht12 HI5 hm12
                      go_wp2_with fail
                      go_roundw
                      case rel => exact ⟨_, mm, _, _, _, _, _, _, HM12.out, Lib.hid HA2.out.2.2, Lib.hid (by have := HKL.out; rw [List.length_append, List.length_append, this]; rfl)⟩
                      case measure =>
                        simp only [c712, c7, Option.getD_some, intOf]
                        omega
        · have hi12 : isP (.ok t) 12 = false := by simp [isP, h12]
          rw [hi12] at HI
          have HRES : Hid (res = .error (t.from_, 100)) := Lib.hid (by
            by_cases hk : t.kind = lastP true
            · rw [if_pos hk] at hE
              exact hE.symm
            · rw [if_neg hk, eachP, if_neg hk] at hE
              unfold headP at hE
              rw [if_neg (by decide), if_pos h12] at hE
              exact hE.symm)
          have HFX := Lib.hid (rfail_any s (.ok t) m R t.from_ 100 (by decide) wr HMB.out.s)
          clear hE hr hmb hLR hi12 h12 c1 c6 hf hLm hm hm0 hg1
          go_wp2_with fail
          refine HI.out.mono ?_
          rintro o w1 ⟨rfl, rfl⟩
          go_wp2_with fail
          refine HFX.out.mono ?_
          rintro o w3 ⟨rfl, hs3, ht3⟩
          have hm3 := HMB.out.step hs3 ht3
          clear HMB hs3 ht3 HFX HI
          have HMB := Lib.hid hm3
          clear hm3
          obtain ⟨o0, o1, o2, o3, o4, o5⟩ := cells6 (show w3.heap[w.heap.size + 1]? = some (.cells #[.int .i64 17, .int .i64 0, .int .u64 0, .string ⟨#[]⟩, (.slice Ak ks.length ck), (.slice Al L.length cl)] 27 (0, 0)) from HMB.out.o)
          obtain ⟨z0, z1, z2, z3, z4, z5⟩ := cells6 (show w3.heap[w.heap.size]? = some (.cells #[.int .i64 0, .int .i64 0, .int .u64 0, .string ⟨#[]⟩, .slice none 0 0, .slice none 0 0] 27 (0, 0)) from HMB.out.z)
          have fz : ∀ i, w3.frozen? ⟨w.heap.size, i, none⟩ = false := fun i => frozen_of_row _ _ _ _ _ HMB.out.z
          have fz0 := fz 0
          have fz1 := fz 1
          have fz2 := fz 2
          have fz3 := fz 3
          have fz4 := fz 4
          have fz5 := fz 5
          clear fz
          go_wp2_with fail
          (refine bodyPost_ret (v := .agg #[.int .i64 17, .int .i64 0, .int .u64 0, .string ⟨#[]⟩, (.slice Ak ks.length ck), (.slice Al L.length cl)]) (by simp [results, Tryz.results59, go_sem, *]) rfl ?_)
          obtain ⟨q1, q2, q3⟩ := HMB.out.fin
          rw [HRES.out]
          exact ⟨q1, ks, L, _, rfl, q2, m, q3⟩
end
section
open Go.RowKit Go.Shelf
theorem rval_any (s : List UInt8) (hl : s.length ≤ 1073741824) : ∀ g, RValC s g := by
  intro g
  induction g using Nat.strongRecOn with
  | _ g ih =>
    cases g with
    | zero => exact fun deep t many R w h hm0 hm hf => by omega
    | succ g => exact rvalue_step s hl g (rlist_any s hl g fun g' h => ih g' (by omega)) (rmembers_any s hl g fun g' h => ih g' (by omega))
/-- The reference's Parse on the way. -/
structure PB (w : World) (s : List UInt8) (m : Int) (x : PE Tok) (W : World) : Prop where
  s : RSt W (w.heap.size + 1) s m x
  z : W.heap[w.heap.size]? = some (.cells zC.toArray 27 (0, 0))
  b : Below w.heap.size w W
  n : w.heap.size + 2 ≤ W.heap.size
theorem PB.step {w : World} {s : List UInt8} {m m' : Int} {x x' : PE Tok} {W W' : World} (h : PB w s m x W) (hs : RSt W' (w.heap.size + 1) s m' x') (ht : Touch [w.heap.size + 1] W W') : PB w s m' x' W' :=
  ⟨hs, (ht.block _ (by have := h.n; omega) (by simp)).trans h.z, ⟨ht.os.trans h.b.os, ht.tape.trans h.b.tape, ht.output.trans h.b.output, Nat.le_trans h.b.size ht.size, fun i hi => (ht.block i (Nat.lt_of_lt_of_le hi h.b.size) (by simp; omega)).trans (h.b.block i hi)⟩, Nat.le_trans h.n ht.size⟩
theorem PB.start (w : World) (s : List UInt8) : PB w s 0 (.ok tok0) ((w.alloc (.cells zC.toArray 27)).alloc (.cells #[strV s, .int .i64 0, .int .i64 0, .int .i64 0, .int .i64 0, .int .u64 0, .string ⟨#[]⟩, .int .i64 0, .int .i64 0, .int .i64 0] 66)) := by
  have h2 := alloc2 w (.cells zC.toArray 27) (.cells #[strV s, .int .i64 0, .int .i64 0, .int .i64 0, .int .i64 0, .int .u64 0, .string ⟨#[]⟩, .int .i64 0, .int .i64 0, .int .i64 0] 66)
  exact ⟨⟨h2.2, by decide, by decide, by decide⟩, h2.1, ((Below.refl _ _).alloc (Nat.le_refl _) _).alloc (by rw [World.size_alloc]; omega) _, by rw [World.size_alloc, World.size_alloc]; omega⟩
set_option maxHeartbeats 32000000 in
set_option maxRecDepth 100000 in
theorem rparse_any (s : List UInt8) (w : World) (hl : s.length ≤ 1073741824) : Calls Tryz.prog 12 #[strV s] w (ParPost w s) := by
  have hs : (⟨s.toArray⟩ : ByteArray).size = s.length := by simp [ByteArray.size]
  by_cases hlong : 1048576 < s.length
  · have hgt : (1048576 : Int) < (s.length : Int) := by omega
    have HM := Lib.hid (show parM s = (zeroD, 0, 5) by unfold parM; rw [if_pos hlong])
    unfold strV
    clear hlong
    go_enter Tryz.func12, Tryz.ntmps12
    go_wp2_with fail
    refine bodyPost_ret (v := .tuple #[.agg zC.toArray, .int .i64 0, .int .i64 5]) (by simp [results, Tryz.results12, go_sem, zC, *]) rfl ?_
    unfold ParPost
    rw [HM.out]
    exact ⟨⟨_, rfl, leaf_fresh (0, 0, 0, [])⟩, by exact zw⟩
  · have hgt : ¬ (1048576 : Int) < (s.length : Int) := by omega
    have hshort : s.length ≤ 1048576 := by omega
    have HST := Lib.hid (PB.start w s)
    unfold strV at HST ⊢
    have HSH := Lib.hid hshort
    clear hlong hshort
    go_enter Tryz.func12, Tryz.ntmps12
    go_upto_region 4 with fail
    refine wp_named (fun wn => PB w s 0 (.ok tok0) wn) HST.out ?_
    clear HST hgt hs
    rintro wn hpb
    have HP0 := Lib.hid hpb
    clear hpb
    go_wp2_with fail
    refine (rnextr_any s (.ok tok0) 0 (w.heap.size + 1) wn HP0.out.s hl).mono ?_
    rintro o w1 ⟨rfl, hs1, ht1⟩
    have hp1 := HP0.out.step hs1 ht1
    rw [show nextS s (.ok tok0) = nextP s tok0 from rfl] at hp1
    clear HP0 hs1 ht1
    have hba := (Below.refl w1.heap.size w1).alloc (Nat.le_refl _) (.cells zC.toArray 27)
    have hp2 := hp1.step (hp1.s.below hba) (Touch.quiet hba)
    have hN := heap_alloc_new w1 (.cells zC.toArray 27)
    have HP2 := Lib.hid hp2
    have HN := Lib.hid hN
    have HXN := Lib.hid hp1.n
    clear hp1 hp2 hN hba
    go_upto_region 6 with fail
    refine wp_named (fun w2 => PB w s 0 (nextP s tok0) w2 ∧ w2.heap[w1.heap.size]? = some (.cells zC.toArray 27 (0, 0))) ⟨HP2.out, HN.out⟩ ?_
    clear HP2 HN
    have hXN := HXN.out
    generalize w1.heap.size = X at *
    rintro w2 ⟨hp2, hN⟩
    have HN := Lib.hid hN
    cases hq : nextP s tok0 with
    | error y =>
      have HPAR := Lib.hid (parM_next HSH.out hq)
      rw [hq] at hp2
      obtain ⟨y1, y2⟩ := y
      have HPB := Lib.hid hp2
      clear hp2 hN HN hq
      obtain ⟨h0, u, hru⟩ := HPB.out.s
      obtain ⟨-, -, -, -, -, -, -, -, c8, c9, -⟩ := hru.cells
      dsimp only at h0 c8 c9
      have ez : (y2 == 0) = false := by simp [h0]
      have en : (y2 != 0) = true := by simp [h0]
      clear h0 hru
      obtain ⟨z0, z1, z2, z3, z4, z5⟩ := cells6 (show w2.heap[w.heap.size]? = some (.cells #[.int .i64 0, .int .i64 0, .int .u64 0, .string ⟨#[]⟩, .slice none 0 0, .slice none 0 0] 27 (0, 0)) from HPB.out.z)
      have fz : ∀ i, w2.frozen? ⟨w.heap.size, i, none⟩ = false := fun i => frozen_of_row _ _ _ _ _ HPB.out.z
      have fz0 := fz 0
      have fz1 := fz 1
      have fz2 := fz 2
      have fz3 := fz 3
      have fz4 := fz 4
      have fz5 := fz 5
      clear fz
      go_upto_region 11 with fail
      go_region_held3 (fun w' => w'.cell? ⟨w.heap.size + 1, 8, none⟩ = some (.int .i64 y1) ∧ w'.cell? ⟨w.heap.size + 1, 9, none⟩ = some (.int .i64 y2)) (first | (with_reducible exact ⟨c8, c9⟩) | (refine ⟨?_, ?_⟩ <;> go_keep)) ((fail))
      go_wp2_with fail
      refine bodyPost_ret (v := .tuple #[.agg zC.toArray, .int .i64 y1, .int .i64 y2]) (by simp [results, Tryz.results12, go_sem, zC, *]) rfl ?_
      unfold ParPost
      rw [HPAR.out]
      refine ⟨⟨_, rfl, leaf_fresh (0, 0, 0, [])⟩, ?_⟩
      have hbb := HPB.out.b
      exact zw
    | ok t =>
      rw [hq] at hp2
      have hr : RRow w2 (w.heap.size + 1) s t 0 0 0 := hp2.s
      obtain ⟨-, -, -, -, -, -, -, -, -, c9, -⟩ := hr.cells
      have HVX := Lib.hid (rval_any s hl 8200 0 t 0 (w.heap.size + 1) w2 hp2.s (by decide) (by decide) (by decide) (by decide) (by decide))
      have HQ := Lib.hid hq
      have HP2 := Lib.hid hp2
      clear hr hp2 hN hq
      go_wp2_with fail
      refine HVX.out.mono ?_
      clear HVX
      rintro o w3 ⟨ht3, T, v, rfl, ⟨x0, x1, x2, x3, x4, x5, bs, rfl, hn3, hnd3, hge3⟩, hpo3⟩
      obtain ⟨kd1, nn1, uu1, s1, B1, m1, d1, B2, m2, d2, rfl, rfl, rfl, rfl, rfl, rfl⟩ := hn3.form2
      have hXlt : X < w2.heap.size := (Array.getElem?_eq_some_iff.1 HN.out).1
      have hN3 : w3.heap[X]? = some (.cells zC.toArray 27 (0, 0)) := (ht3.block X hXlt (by simp; omega)).trans HN.out
      obtain ⟨n0, n1, n2, n3, n4, n5⟩ := cells6 (show w3.heap[X]? = some (.cells #[.int .i64 0, .int .i64 0, .int .u64 0, .string ⟨#[]⟩, .slice none 0 0, .slice none 0 0] 27 (0, 0)) from hN3)
      have fn : ∀ i, w3.frozen? ⟨X, i, none⟩ = false := fun i => frozen_of_row _ _ _ _ _ hN3
      have fn0 := fn 0
      have fn1 := fn 1
      have fn2 := fn 2
      have fn3 := fn 3
      have fn4 := fn 4
      have fn5 := fn 5
      clear fn c9
      have hoth : ∀ i, i ≠ X → ((((((w3.setCell ⟨X, 0, none⟩ (.int .i64 kd1)).setCell ⟨X, 1, none⟩ (.int .i64 nn1)).setCell ⟨X, 2, none⟩ (.int .u64 uu1)).setCell ⟨X, 3, none⟩ (.string s1)).setCell ⟨X, 4, none⟩ (.slice B1 m1 d1)).setCell ⟨X, 5, none⟩ (.slice B2 m2 d2)).heap[i]? = w3.heap[i]? := by
        intro i hne
        rw [heap_setCell_other _ _ _ _ hne, heap_setCell_other _ _ _ _ hne, heap_setCell_other _ _ _ _ hne, heap_setCell_other _ _ _ _ hne, heap_setCell_other _ _ _ _ hne, heap_setCell_other _ _ _ _ hne]
      have hrow := row6_set hN3 (.int .i64 kd1) (.int .i64 nn1) (.int .u64 uu1) (.string s1) (.slice B1 m1 d1) (.slice B2 m2 d2)
      have hsz3 := ht3.size
      have hbe : Below X w3 ((((((w3.setCell ⟨X, 0, none⟩ (.int .i64 kd1)).setCell ⟨X, 1, none⟩ (.int .i64 nn1)).setCell ⟨X, 2, none⟩ (.int .u64 uu1)).setCell ⟨X, 3, none⟩ (.string s1)).setCell ⟨X, 4, none⟩ (.slice B1 m1 d1)).setCell ⟨X, 5, none⟩ (.slice B2 m2 d2)) := ((((((Below.refl X w3).setCell (p := ⟨X, 0, none⟩) (Nat.le_refl _) _).setCell (p := ⟨X, 1, none⟩) (Nat.le_refl _) _).setCell (p := ⟨X, 2, none⟩) (Nat.le_refl _) _).setCell (p := ⟨X, 3, none⟩) (Nat.le_refl _) _).setCell (p := ⟨X, 4, none⟩) (Nat.le_refl _) _).setCell (p := ⟨X, 5, none⟩) (Nat.le_refl _) _
      have hstep : ∀ (mm : Int) (x' : PE Tok), RSt w3 (w.heap.size + 1) s mm x' → PB w s mm x' ((((((w3.setCell ⟨X, 0, none⟩ (.int .i64 kd1)).setCell ⟨X, 1, none⟩ (.int .i64 nn1)).setCell ⟨X, 2, none⟩ (.int .u64 uu1)).setCell ⟨X, 3, none⟩ (.string s1)).setCell ⟨X, 4, none⟩ (.slice B1 m1 d1)).setCell ⟨X, 5, none⟩ (.slice B2 m2 d2)) := fun mm x' hx => by
        have h3 := HP2.out.step hx ht3
        exact ⟨hx.same (hoth _ (by omega)), (hoth _ (by omega)).trans h3.z, h3.b.trans (hbe.mono (by omega)), by have := h3.n; simpa using this⟩
      have hn4 := NRep.same _ _ _ hn3 fun i hi => hoth i (by have := hge3 i hi; omega)
      have HST := Lib.hid hstep
      have HN4 := Lib.hid (And.intro hn4 (And.intro hnd3 (And.intro hge3 hrow)))
      have HPO := Lib.hid hpo3
      have HWS := Lib.hid (show w.heap.size ≤ w2.heap.size by omega)
      clear hstep hn4 hnd3 hge3 hrow hpo3 hoth hbe hn3 ht3 hsz3 HP2 HN
      go_upto_region 8 with fail
      refine wp_named (fun w4 => (∀ (mm : Int) (x' : PE Tok), RSt w3 (w.heap.size + 1) s mm x' → PB w s mm x' w4) ∧ NRep w4 T [.int .i64 kd1, .int .i64 nn1, .int .u64 uu1, .string s1, .slice B1 m1 d1, .slice B2 m2 d2] bs ∧ w4.heap[X]? = some (.cells #[.int .i64 kd1, .int .i64 nn1, .int .u64 uu1, .string s1, .slice B1 m1 d1, .slice B2 m2 d2] 27 (0, 0))) ⟨HST.out, HN4.out.1, HN4.out.2.2.2⟩ ?_
      clear HST n0 n1 n2 n3 n4 n5 fn0 fn1 fn2 fn3 fn4 fn5 hN3
      rintro w4 ⟨hstep, hn4, hrow⟩
      have hpo := HPO.out
      cases hv : valP s 8200 0 t 0 with
      | error y =>
        have HPAR := Lib.hid (parM_val HSH.out HQ.out hv)
        rw [hv] at hpo
        obtain ⟨mm, hmm⟩ := hpo
        obtain ⟨y1, y2⟩ := y
        have HPB := Lib.hid (hstep mm _ hmm)
        clear hstep hn4 hrow hv hmm HPO HN4
        obtain ⟨h0, u, hru⟩ := HPB.out.s
        obtain ⟨-, -, -, -, -, -, -, -, c8, c9, -⟩ := hru.cells
        dsimp only at h0 c8 c9
        have ez : (y2 == 0) = false := by simp [h0]
        have en : (y2 != 0) = true := by simp [h0]
        clear h0 hru
        obtain ⟨z0, z1, z2, z3, z4, z5⟩ := cells6 (show w4.heap[w.heap.size]? = some (.cells #[.int .i64 0, .int .i64 0, .int .u64 0, .string ⟨#[]⟩, .slice none 0 0, .slice none 0 0] 27 (0, 0)) from HPB.out.z)
        have fz : ∀ i, w4.frozen? ⟨w.heap.size, i, none⟩ = false := fun i => frozen_of_row _ _ _ _ _ HPB.out.z
        have fz0 := fz 0
        have fz1 := fz 1
        have fz2 := fz 2
        have fz3 := fz 3
        have fz4 := fz 4
        have fz5 := fz 5
        clear fz
        go_upto_region 11 with fail
        go_region_held3 (fun w' => w'.cell? ⟨w.heap.size + 1, 8, none⟩ = some (.int .i64 y1) ∧ w'.cell? ⟨w.heap.size + 1, 9, none⟩ = some (.int .i64 y2)) (first | (with_reducible exact ⟨c8, c9⟩) | (refine ⟨?_, ?_⟩ <;> go_keep)) ((fail))
        go_wp2_with fail
        refine bodyPost_ret (v := .tuple #[.agg zC.toArray, .int .i64 y1, .int .i64 y2]) (by simp [results, Tryz.results12, go_sem, zC, *]) rfl ?_
        unfold ParPost
        rw [HPAR.out]
        refine ⟨⟨_, rfl, leaf_fresh (0, 0, 0, [])⟩, ?_⟩
        have hbb := HPB.out.b
        exact zw
      | ok p =>
        obtain ⟨T', t1, mm⟩ := p
        have hpar := parM_end HSH.out HQ.out hv
        rw [hv] at hpo
        obtain ⟨rfl, hmm⟩ := hpo
        have HPB := Lib.hid (hstep mm _ hmm)
        have hr : RRow w4 (w.heap.size + 1) s t1 mm 0 0 := HPB.out.s
        obtain ⟨-, c1, c2, -, -, -, -, -, -, c9, -⟩ := hr.cells
        have HNR := Lib.hid (And.intro hn4 hrow)
        by_cases hk : t1.kind = 0
        · rw [if_neg (by simp [hk])] at hpar
          rw [hk] at c1
          have HPAR := Lib.hid hpar
          obtain ⟨n0, n1, n2, n3, n4, n5⟩ := cells6 hrow
          clear hpar hstep hn4 hrow hv hmm hr hk HPO
          obtain ⟨z0, z1, z2, z3, z4, z5⟩ := cells6 (show w4.heap[w.heap.size]? = some (.cells #[.int .i64 0, .int .i64 0, .int .u64 0, .string ⟨#[]⟩, .slice none 0 0, .slice none 0 0] 27 (0, 0)) from HPB.out.z)
          have fz : ∀ i, w4.frozen? ⟨w.heap.size, i, none⟩ = false := fun i => frozen_of_row _ _ _ _ _ HPB.out.z
          have fz0 := fz 0
          have fz1 := fz 1
          have fz2 := fz 2
          have fz3 := fz 3
          have fz4 := fz 4
          have fz5 := fz 5
          clear fz
          go_wp2_with fail
          refine bodyPost_ret (v := .tuple #[.agg #[.int .i64 kd1, .int .i64 nn1, .int .u64 uu1, .string s1, .slice B1 m1 d1, .slice B2 m2 d2], .int .i64 0, .int .i64 0]) (by simp [results, Tryz.results12, go_sem, *]) rfl ?_
          unfold ParPost
          rw [HPAR.out]
          have hoth : ∀ i, i ≠ w.heap.size → ((((((w4.setCell ⟨w.heap.size, 0, none⟩ (.int .i64 kd1)).setCell ⟨w.heap.size, 1, none⟩ (.int .i64 nn1)).setCell ⟨w.heap.size, 2, none⟩ (.int .u64 uu1)).setCell ⟨w.heap.size, 3, none⟩ (.string s1)).setCell ⟨w.heap.size, 4, none⟩ (.slice B1 m1 d1)).setCell ⟨w.heap.size, 5, none⟩ (.slice B2 m2 d2)).heap[i]? = w4.heap[i]? := by
            intro i hne
            rw [heap_setCell_other _ _ _ _ hne, heap_setCell_other _ _ _ _ hne, heap_setCell_other _ _ _ _ hne, heap_setCell_other _ _ _ _ hne, heap_setCell_other _ _ _ _ hne, heap_setCell_other _ _ _ _ hne]
          refine ⟨⟨_, rfl, _, _, _, _, _, _, bs, rfl, NRep.same _ _ _ HNR.out.1 fun i hi => hoth i (by have := HN4.out.2.2.1 i hi; have := HXN.out; have := hXlt; omega), HN4.out.2.1, fun i hi => Nat.le_trans HWS.out (HN4.out.2.2.1 i hi)⟩, ?_⟩
          exact (((((HPB.out.b.setCell (p := ⟨w.heap.size, 0, none⟩) (Nat.le_refl _) _).setCell (p := ⟨w.heap.size, 1, none⟩) (Nat.le_refl _) _).setCell (p := ⟨w.heap.size, 2, none⟩) (Nat.le_refl _) _).setCell (p := ⟨w.heap.size, 3, none⟩) (Nat.le_refl _) _).setCell (p := ⟨w.heap.size, 4, none⟩) (Nat.le_refl _) _).setCell (p := ⟨w.heap.size, 5, none⟩) (Nat.le_refl _) _
        · rw [if_pos hk] at hpar
          have HPAR := Lib.hid hpar
          have ek : (t1.kind != 0) = true := by simp [hk]
          have HFX := Lib.hid (rfail_any s (.ok t1) mm (w.heap.size + 1) t1.from_ 100 (by decide) w4 HPB.out.s)
          clear hpar hstep hn4 hrow hv hmm hr hk HPO HN4 HNR
          go_wp2_with fail
          refine HFX.out.mono ?_
          rintro o w5 ⟨rfl, hs5, ht5⟩
          have hp5 := HPB.out.step hs5 ht5
          rw [show failP (.ok t1) t1.from_ 100 = .error (t1.from_, 100) from rfl] at hp5
          clear HPB HFX hs5 ht5 c1 c2 c9
          have HPB := Lib.hid hp5
          clear hp5
          obtain ⟨h0, u, hru⟩ := HPB.out.s
          obtain ⟨-, -, -, -, -, -, -, -, c8, c9, -⟩ := hru.cells
          dsimp only at h0 c8 c9
          clear h0 hru
          obtain ⟨z0, z1, z2, z3, z4, z5⟩ := cells6 (show w5.heap[w.heap.size]? = some (.cells #[.int .i64 0, .int .i64 0, .int .u64 0, .string ⟨#[]⟩, .slice none 0 0, .slice none 0 0] 27 (0, 0)) from HPB.out.z)
          have fz : ∀ i, w5.frozen? ⟨w.heap.size, i, none⟩ = false := fun i => frozen_of_row _ _ _ _ _ HPB.out.z
          have fz0 := fz 0
          have fz1 := fz 1
          have fz2 := fz 2
          have fz3 := fz 3
          have fz4 := fz 4
          have fz5 := fz 5
          clear fz
          go_upto_region 11 with fail
          go_region_held3 (fun w' => w'.cell? ⟨w.heap.size + 1, 8, none⟩ = some (.int .i64 t1.from_) ∧ w'.cell? ⟨w.heap.size + 1, 9, none⟩ = some (.int .i64 100)) (first | (with_reducible exact ⟨c8, c9⟩) | (refine ⟨?_, ?_⟩ <;> go_keep)) ((fail))
          go_wp2_with fail
          refine bodyPost_ret (v := .tuple #[.agg zC.toArray, .int .i64 t1.from_, .int .i64 100]) (by simp [results, Tryz.results12, go_sem, zC, *]) rfl ?_
          unfold ParPost
          rw [HPAR.out]
          refine ⟨⟨_, rfl, leaf_fresh (0, 0, 0, [])⟩, ?_⟩
          have hbb := HPB.out.b
          exact zw
end
end Go.Proofs.YtccmhhmdenfecaaGreatDoor
