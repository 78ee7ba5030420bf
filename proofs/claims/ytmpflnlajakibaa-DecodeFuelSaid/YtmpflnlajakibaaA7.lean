/- Maps as functions: a block that holds a map reads as a partial function on values; the runs of lookup, update, delete. Over any program. The key types of verify's maps. -/
import Derived.Test.YtmpflnlajakibaaA1
import Derived.Maps.Keyed
import Derived.Maps.Own
import Derived.DeepKeys4
import Derived.Test.YtmpflnlajakibaaProg
import Derived.KernelRfl
namespace Go.Proofs.Ytmpflnlajakibaa
set_option linter.unusedVariables false
set_option linter.unusedSimpArgs false
section
open Go.RowKit Go.Maps
open Go.ChangeMaps (setBlock)
/-- Block b is a map whose keys are of type k, and it reads as F. -/
def MapIs (P : Program) (k : TypeId) (w : World) (b : Nat) (F : Value → Option Value) : Prop :=
  ∃ es clock, w.heap[b]? = some (.map es clock) ∧ (∀ e ∈ es.toList, ∃ l, keyOf P k e.key = some l) ∧ (es.toList.map (·.key)).Pairwise (· ≠ ·) ∧
    ∀ x v, F x = some v ↔ ∃ e ∈ es.toList, e.key = x ∧ e.val = v
theorem key_inj {l : List MapEntry} (hd : (l.map (·.key)).Pairwise (· ≠ ·)) {i j : Nat} {e e' : MapEntry} (hi : l[i]? = some e) (hj : l[j]? = some e') (h : e.key = e'.key) : i = j := by
  have h0 : i < (l.map (·.key)).length := by
    rw [List.length_map]; exact (List.getElem?_eq_some_iff.1 hi).1
  exact (List.getElem?_inj h0 hd).1 (by rw [List.getElem?_map, List.getElem?_map, hi, hj, Option.map_some, Option.map_some, h])
theorem mem_set_key {l : List MapEntry} (hd : (l.map (·.key)).Pairwise (· ≠ ·)) {j : Nat} {e0 e' : MapEntry} (hj : l[j]? = some e0) (e : MapEntry) :
    e ∈ l.set j e' ↔ e = e' ∨ (e ∈ l ∧ e.key ≠ e0.key) := by
  have hjl : j < l.length := (List.getElem?_eq_some_iff.1 hj).1
  rw [List.mem_iff_getElem?]
  constructor
  · rintro ⟨i, hi⟩
    rw [List.getElem?_set] at hi
    split at hi
    · rename_i hij
      subst hij
      (try rw [if_pos hjl] at hi)
      exact .inl (Option.some.inj hi).symm
    · rename_i hij
      exact .inr ⟨List.mem_of_getElem? hi, fun hk => hij (key_inj hd hi hj hk).symm⟩
  · rintro (rfl | ⟨hm, hk⟩)
    · exact ⟨j, by rw [List.getElem?_set, if_pos rfl, if_pos hjl]⟩
    · obtain ⟨i, hi⟩ := List.mem_iff_getElem?.1 hm
      refine ⟨i, ?_⟩
      rw [List.getElem?_set, if_neg, hi]
      rintro rfl
      rw [hj] at hi
      exact hk (by rw [← Option.some.inj hi])
theorem mem_erase_key {l : List MapEntry} (hd : (l.map (·.key)).Pairwise (· ≠ ·)) {j : Nat} {e0 : MapEntry} (hj : l[j]? = some e0) (e : MapEntry) :
    e ∈ l.eraseIdx j ↔ e ∈ l ∧ e.key ≠ e0.key := by
  rw [List.mem_eraseIdx_iff_getElem?]
  constructor
  · rintro ⟨i, hij, hi⟩
    exact ⟨List.mem_of_getElem? hi, fun hk => hij (key_inj hd hi hj hk)⟩
  · rintro ⟨hm, hk⟩
    obtain ⟨i, hi⟩ := List.mem_iff_getElem?.1 hm
    refine ⟨i, ?_, hi⟩
    rintro rfl
    rw [hj] at hi
    exact hk (by rw [← Option.some.inj hi])
section
variable {P : Program} {k t el : TypeId} {w : World} {b : Nat} {F : Value → Option Value}
theorem MapIs.made (w : World) : MapIs P k (w.alloc (.map #[] 0)) w.heap.size (fun _ => none) :=
  ⟨#[], 0, heap_alloc_new _ _, by simp, by simp, by simp⟩
theorem MapIs.same {w' : World} (h : MapIs P k w b F) (e : w'.heap[b]? = w.heap[b]?) : MapIs P k w' b F := by
  obtain ⟨es, clock, hb, r⟩ := h
  exact ⟨es, clock, e.trans hb, r⟩
theorem MapIs.lt (h : MapIs P k w b F) : b < w.heap.size := by
  obtain ⟨es, clock, hb, _⟩ := h
  exact (Array.getElem?_eq_some_iff.1 hb).1
theorem MapIs.look (h : MapIs P k w b F) (c : Bool) (K : Keyed P k) (ht : P.underlying t = some (.map k el)) {z : Value} (hz : (zeroValue el).run P w = .ok z w) {key : Value} {kl : Lit} (hkey : keyOf P k key = some kl) :
    (Instr.lookup t (.map (some b)) key c).run P w = .ok (if c then .tuple #[(F key).getD z, .bool (F key).isSome] else (F key).getD z) w := by
  obtain ⟨es, clock, hb, hk, hd, hF⟩ := h
  rcases K.find w hkey es.toList hk with ⟨h1, h2⟩ | ⟨j, e0, h1, h2, h3⟩
  · have hn : F key = none := by
      cases hf : F key with
      | none => rfl
      | some v => obtain ⟨e, he, hek, _⟩ := (hF key v).1 hf; exact absurd hek (h2 e he)
    rw [hn]
    simp [Instr.lookup, run_underlying ht, MapKept.run_getObj_map hb, K.check w _ hkey, h1, hz, Result.andThen]
  · have hm0 : e0 ∈ es.toList := List.mem_of_getElem? h2
    have hs : F key = some e0.val := (hF key e0.val).2 ⟨e0, hm0, h3, rfl⟩
    rw [hs]
    simp [Instr.lookup, run_underlying ht, MapKept.run_getObj_map hb, K.check w _ hkey, h1, Result.andThen]
open Classical in
theorem MapIs.update (h : MapIs P k w b F) (K : Keyed P k) (ht : P.underlying t = some (.map k el)) {key val : Value} {kl : Lit} (hkey : keyOf P k key = some kl) :
    ∃ o, (Instr.mapUpdate t (.map (some b)) key val).run P w = .ok () (setBlock w b o) ∧ MapIs P k (setBlock w b o) b (fun y => if y = key then some val else F y) := by
  obtain ⟨es, clock, hb, hk, hd, hF⟩ := h
  have hlt : b < w.heap.size := (Array.getElem?_eq_some_iff.1 hb).1
  have hset : ∀ o, (setBlock w b o).heap[b]? = some o := fun o => by simp [setBlock, hlt]
  rcases K.find w hkey es.toList hk with ⟨h1, h2⟩ | ⟨j, e0, h1, h2, h3⟩
  · refine ⟨.map (es.push { key, val, born := clock }) (clock + 1), by simp [Instr.mapUpdate, run_underlying ht, MapKept.run_getObj_map hb, K.check w _ hkey, h1, MapKept.run_setObj_map _ hb, Result.andThen, setBlock], _, _, hset _, ?_, ?_, ?_⟩
    · intro e he
      simp only [Array.toList_push, List.mem_append, List.mem_singleton] at he
      rcases he with he | rfl
      · exact hk e he
      · exact ⟨kl, hkey⟩
    · simp only [Array.toList_push, List.map_append, List.map_cons, List.map_nil, List.pairwise_append]
      refine ⟨hd, by simp, fun a ha c hc => ?_⟩
      simp only [List.mem_singleton] at hc
      subst hc
      obtain ⟨e, he, rfl⟩ := List.mem_map.1 ha
      exact h2 e he
    · intro x v
      simp only [Array.toList_push, List.mem_append, List.mem_singleton]
      by_cases hx : x = key
      · subst hx
        rw [if_pos rfl]
        constructor
        · intro h; exact ⟨_, .inr rfl, rfl, Option.some.inj h⟩
        · rintro ⟨e, he | rfl, hek, hev⟩
          · exact absurd hek (h2 e he)
          · rw [← hev]
      · rw [if_neg hx, hF]
        constructor
        · rintro ⟨e, he, r⟩; exact ⟨e, .inl he, r⟩
        · rintro ⟨e, he | rfl, hek, hev⟩
          · exact ⟨e, he, hek, hev⟩
          · exact absurd hek.symm hx
  · have hm0 : e0 ∈ es.toList := List.mem_of_getElem? h2
    have hj : es[j]? = some e0 := by rw [← Array.getElem?_toList]; exact h2
    have hjs : j < es.size := (Array.getElem?_eq_some_iff.1 hj).1
    have hstay := K.stays w hkey
    have hl : (es.modify j fun e => { e with key := key, val := val }).toList = es.toList.set j { e0 with key := key, val := val } := by
      apply List.ext_getElem?
      intro i
      rw [Array.getElem?_toList, Array.getElem?_modify, List.getElem?_set]
      by_cases hij : j = i
      · subst hij
        rw [if_pos rfl, if_pos rfl, if_pos (by simpa using hjs), hj]; rfl
      · rw [if_neg hij, if_neg hij, Array.getElem?_toList]
    refine ⟨.map (es.modify j fun e => { e with key := key, val := val }) clock, by simp [Instr.mapUpdate, run_underlying ht, MapKept.run_getObj_map hb, K.check w _ hkey, h1, hj, h3, hstay, MapKept.run_setObj_map _ hb, Result.andThen, setBlock], _, _, hset _, ?_, ?_, ?_⟩
    · intro e he
      rw [hl, mem_set_key hd h2] at he
      rcases he with rfl | ⟨he, _⟩
      · exact ⟨kl, hkey⟩
      · exact hk e he
    · have hm : ((es.toList.set j { e0 with key := key, val := val }).map (·.key)) = es.toList.map (·.key) := by
        rw [List.map_set]
        apply List.ext_getElem?
        intro i
        rw [List.getElem?_set]
        by_cases hij : j = i
        · subst hij
          rw [if_pos rfl, if_pos (by rw [List.length_map]; simpa using hjs), List.getElem?_map, h2, Option.map_some, h3]
        · rw [if_neg hij]
      rw [hl, hm]; exact hd
    · intro x v
      rw [hl]
      (try simp only [])
      by_cases hx : x = key
      · subst hx
        rw [if_pos rfl]
        constructor
        · intro h; exact ⟨_, (mem_set_key hd h2 _).2 (.inl rfl), rfl, Option.some.inj h⟩
        · rintro ⟨e, he, hek, hev⟩
          rcases (mem_set_key hd h2 e).1 he with rfl | ⟨_, hne⟩
          · rw [← hev]
          · exact absurd (hek.trans h3.symm) hne
      · rw [if_neg hx, hF]
        constructor
        · rintro ⟨e, he, hek, hev⟩
          exact ⟨e, (mem_set_key hd h2 e).2 (.inr ⟨he, fun h => hx (hek.symm.trans (h.trans h3))⟩), hek, hev⟩
        · rintro ⟨e, he, hek, hev⟩
          rcases (mem_set_key hd h2 e).1 he with rfl | ⟨he, _⟩
          · exact absurd hek.symm hx
          · exact ⟨e, he, hek, hev⟩
open Classical in
theorem MapIs.del (h : MapIs P k w b F) (K : Keyed P k) (ht : P.underlying t = some (.map k el)) {key : Value} {kl : Lit} (hkey : keyOf P k key = some kl) (ty : TypeId) :
    ∃ o, (Builtin.delete_ #[t, k] ty #[.map (some b), key]).run P w = .ok (.tuple #[]) (setBlock w b o) ∧ MapIs P k (setBlock w b o) b (fun y => if y = key then none else F y) := by
  obtain ⟨es, clock, hb, hk, hd, hF⟩ := h
  have hlt : b < w.heap.size := (Array.getElem?_eq_some_iff.1 hb).1
  have hset : ∀ o, (setBlock w b o).heap[b]? = some o := fun o => by simp [setBlock, hlt]
  rcases K.find w hkey es.toList hk with ⟨h1, h2⟩ | ⟨j, e0, h1, h2, h3⟩
  · refine ⟨.map es clock, by simp [Builtin.delete_, run_underlying ht, MapKept.run_getObj_map hb, K.check w _ hkey, h1, MapKept.run_setObj_map _ hb, Result.andThen, setBlock], es, clock, hset _, hk, hd, fun x v => ?_⟩
    (try simp only [])
    by_cases hx : x = key
    · subst hx
      rw [if_pos rfl]
      exact ⟨fun h => (by cases h), fun ⟨e, he, hek, _⟩ => absurd hek (h2 e he)⟩
    · rw [if_neg hx, hF]
  · have hjl : j < es.toList.length := (List.getElem?_eq_some_iff.1 h2).1
    have hjs : j < es.size := by simpa using hjl
    have hsub : (es.eraseIdxIfInBounds j).toList = es.toList.eraseIdx j := by
      unfold Array.eraseIdxIfInBounds
      rw [dif_pos hjs]
      simp
    refine ⟨.map (es.eraseIdxIfInBounds j) clock, by simp [Builtin.delete_, run_underlying ht, MapKept.run_getObj_map hb, K.check w _ hkey, h1, MapKept.run_setObj_map _ hb, Result.andThen, setBlock], _, _, hset _, ?_, ?_, ?_⟩
    · intro e he
      rw [hsub, mem_erase_key hd h2] at he
      exact hk e he.1
    · rw [hsub]
      exact hd.sublist ((List.eraseIdx_sublist _ _).map _)
    · intro x v
      rw [hsub]
      (try simp only [])
      by_cases hx : x = key
      · subst hx
        rw [if_pos rfl]
        exact ⟨fun h => (by cases h), fun ⟨e, he, hek, _⟩ => absurd (hek.trans h3.symm) ((mem_erase_key hd h2 e).1 he).2⟩
      · rw [if_neg hx, hF]
        constructor
        · rintro ⟨e, he, hek, hev⟩
          exact ⟨e, (mem_erase_key hd h2 e).2 ⟨he, fun h => hx (hek.symm.trans (h.trans h3))⟩, hek, hev⟩
        · rintro ⟨e, he, hek, hev⟩
          exact ⟨e, ((mem_erase_key hd h2 e).1 he).1, hek, hev⟩
end
end
section
open Go.RowKit Go.Maps
theorem laidOutK : laidOutB Try.prog = true := by kernel_rfl
theorem leadRow : (100 : TypeId) < Try.prog.types.size := of_decide_eq_true (by kernel_rfl)
theorem leadWide : (match Try.prog.underlying 100 with | some (.array _ _) | some (.struct _) => true | _ => false) = true := by kernel_rfl
theorem leadAt : Try.prog.keyTypeAt 2 100 = true := by kernel_rfl
theorem leadLaw : WideMaps.KeyLaw Try.prog 100 := deep_law_laid laidOutK (m := 2) (by omega) leadRow leadAt (by kernel_rfl)
theorem leadKeyed : Keyed Try.prog 100 := Keyed.of_law leadLaw
theorem intKeyed : Keyed Try.prog 3 := int_keyed Try.underlying3
def leadV (t a k : Int) : Value := .agg #[.int .i64 t, .int .i64 a, .int .i64 k]
theorem intLits (d : Nat) (a : Int) (h : (Lit.int .i64 a).wf = true) : Try.prog.keyLits (d + 1) 3 [.int .i64 a] = some [.int .i64 a] := by
  unfold Program.keyLits
  rw [Try.underlying3]
  simp [h]
theorem leadCells : Try.prog.cellsOf 100 = 3 := by kernel_rfl
theorem intCells : Try.prog.cellsOf 3 = 1 := by kernel_rfl
theorem leadType : Try.prog.keyType 100 = true := by kernel_rfl
theorem leadFormed (t a k : Int) : (leadV t a k).formed Try.prog 100 = true := by kernel_rfl
theorem leadLits (t a k : Int) (h1 : (Lit.int .i64 t).wf = true) (h2 : (Lit.int .i64 a).wf = true) (h3 : (Lit.int .i64 k).wf = true) (d : Nat) :
    Try.prog.keyLits (d + 2) 100 [.int .i64 t, .int .i64 a, .int .i64 k] = some [.int .i64 t, .int .i64 a, .int .i64 k] := by
  have i1 := intLits d t h1
  have i2 := intLits d a h2
  have i3 := intLits d k h3
  unfold Program.keyLits
  rw [Try.underlying100]
  simp [leadCells, intCells, i1, i2, i3]
set_option maxRecDepth 100000 in
theorem leadKey (t a k : Int) (h1 : (Lit.int .i64 t).wf = true) (h2 : (Lit.int .i64 a).wf = true) (h3 : (Lit.int .i64 k).wf = true) : ∃ l, keyOf Try.prog 100 (leadV t a k) = some l := by
  have hs : ∃ d, Try.prog.types.size + 1 = d + 2 := ⟨Try.prog.types.size - 1, by
    have h0 : 0 < Try.prog.types.size := Nat.lt_of_le_of_lt (Nat.zero_le _) leadRow
    omega⟩
  obtain ⟨d, hd⟩ := hs
  unfold keyOf
  simp only [Try.underlying100]
  simp only [leadType, leadFormed, hd, leadV, Value.cells, leadLits t a k h1 h2 h3 d]
  exact ⟨_, rfl⟩
theorem intKey (a : Int) (h : (Lit.int .i64 a).wf = true) : ∃ l, keyOf Try.prog 3 (.int .i64 a) = some l := ⟨_, keyOf_int_mk Try.underlying3 h⟩
end
end Go.Proofs.Ytmpflnlajakibaa
