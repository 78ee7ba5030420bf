/- Maps as functions: a block that holds a map reads as a partial function on values; the runs of lookup, update, delete. Over any program. The walk of tree.keyed: the first error in the keys of a node. -/
import Derived.Test.YtccmhhmdenfecaaGreatDoorT0
import Derived.Maps.Keyed
import Derived.Maps.Own
import Derived.DeepKeys4
import Derived.Test.YtccmhhmdenfecaaGreatDoorProg
import Derived.KernelRfl
import Derived.Test.YtccmhhmdenfecaaGreatDoorEa
import Derived.Test.YtccmhhmdenfecaaGreatDoorQa
import Derived.Test.YtccmhhmdenfecaaGreatDoorShelf
import Derived.StringKeys
import Derived.Lib.IndexAny
namespace Go.Proofs.YtccmhhmdenfecaaGreatDoor
set_option linter.unusedVariables false
set_option linter.unusedSimpArgs false
section
section
open Go.RowKit Go.Maps
open Go.ChangeMaps (setBlock)
/-- Block b is a map whose keys are of type k, and it reads as F. -/
def MapIs (P : Program) (k : TypeId) (w : World) (b : Nat) (F : Value → Option Value) : Prop :=
  ∃ es clock, w.heap[b]? = some (.map es clock) ∧ (∀ e ∈ es.toList, ∃ l, keyOf P k e.key = some l) ∧ (es.toList.map (·.key)).Pairwise (· ≠ ·) ∧
    ∀ x v, F x = some v ↔ ∃ e ∈ es.toList, e.key = x ∧ e.val = v
theorem key_inj {l : List MapEntry} (hd : (l.map (·.key)).Pairwise (· ≠ ·)) {i j : Nat} {e e' : MapEntry} (hi : l[i]? = some e) (hj : l[j]? = some e') (h : e.key = e'.key) : i = j := by
  have h0 : i < (l.map (·.key)).length := by
    rw [List.length_map]; exact (List.getElem?_eq_some_iff.1 hi).1
  exact (List.getElem?_inj h0 hd).1 (by rw [List.getElem?_map, List.getElem?_map, hi, hj, Option.map_some, Option.map_some, h])
theorem mem_set_key {l : List MapEntry} (hd : (l.map (·.key)).Pairwise (· ≠ ·)) {j : Nat} {e0 e' : MapEntry} (hj : l[j]? = some e0) (e : MapEntry) :
    e ∈ l.set j e' ↔ e = e' ∨ (e ∈ l ∧ e.key ≠ e0.key) := by
  have hjl : j < l.length := (List.getElem?_eq_some_iff.1 hj).1
  rw [List.mem_iff_getElem?]
  constructor
  · rintro ⟨i, hi⟩
    rw [List.getElem?_set] at hi
    split at hi
    · rename_i hij
      subst hij
      (try rw [if_pos hjl] at hi)
      exact .inl (Option.some.inj hi).symm
    · rename_i hij
      exact .inr ⟨List.mem_of_getElem? hi, fun hk => hij (key_inj hd hi hj hk).symm⟩
  · rintro (rfl | ⟨hm, hk⟩)
    · exact ⟨j, by rw [List.getElem?_set, if_pos rfl, if_pos hjl]⟩
    · obtain ⟨i, hi⟩ := List.mem_iff_getElem?.1 hm
      refine ⟨i, ?_⟩
      rw [List.getElem?_set, if_neg, hi]
      rintro rfl
      rw [hj] at hi
      exact hk (by rw [← Option.some.inj hi])
section
variable {P : Program} {k t el : TypeId} {w : World} {b : Nat} {F : Value → Option Value}
theorem MapIs.made (w : World) : MapIs P k (w.alloc (.map #[] 0)) w.heap.size (fun _ => none) :=
  ⟨#[], 0, heap_alloc_new _ _, by simp, by simp, by simp⟩
theorem MapIs.same {w' : World} (h : MapIs P k w b F) (e : w'.heap[b]? = w.heap[b]?) : MapIs P k w' b F := by
  obtain ⟨es, clock, hb, r⟩ := h
  exact ⟨es, clock, e.trans hb, r⟩
theorem MapIs.lt (h : MapIs P k w b F) : b < w.heap.size := by
  obtain ⟨es, clock, hb, _⟩ := h
  exact (Array.getElem?_eq_some_iff.1 hb).1
theorem MapIs.look (h : MapIs P k w b F) (c : Bool) (K : Keyed P k) (ht : P.underlying t = some (.map k el)) {z : Value} (hz : (zeroValue el).run P w = .ok z w) {key : Value} {kl : Lit} (hkey : keyOf P k key = some kl) :
    (Instr.lookup t (.map (some b)) key c).run P w = .ok (if c then .tuple #[(F key).getD z, .bool (F key).isSome] else (F key).getD z) w := by
  obtain ⟨es, clock, hb, hk, hd, hF⟩ := h
  rcases K.find w hkey es.toList hk with ⟨h1, h2⟩ | ⟨j, e0, h1, h2, h3⟩
  · have hn : F key = none := by
      cases hf : F key with
      | none => rfl
      | some v => obtain ⟨e, he, hek, _⟩ := (hF key v).1 hf; exact absurd hek (h2 e he)
    rw [hn]
    simp [Instr.lookup, run_underlying ht, MapKept.run_getObj_map hb, K.check w _ hkey, h1, hz, Result.andThen]
  · have hm0 : e0 ∈ es.toList := List.mem_of_getElem? h2
    have hs : F key = some e0.val := (hF key e0.val).2 ⟨e0, hm0, h3, rfl⟩
    rw [hs]
    simp [Instr.lookup, run_underlying ht, MapKept.run_getObj_map hb, K.check w _ hkey, h1, Result.andThen]
open Classical in
theorem MapIs.update (h : MapIs P k w b F) (K : Keyed P k) (ht : P.underlying t = some (.map k el)) {key val : Value} {kl : Lit} (hkey : keyOf P k key = some kl) :
    ∃ o, (Instr.mapUpdate t (.map (some b)) key val).run P w = .ok () (setBlock w b o) ∧ MapIs P k (setBlock w b o) b (fun y => if y = key then some val else F y) := by
  obtain ⟨es, clock, hb, hk, hd, hF⟩ := h
  have hlt : b < w.heap.size := (Array.getElem?_eq_some_iff.1 hb).1
  have hset : ∀ o, (setBlock w b o).heap[b]? = some o := fun o => by simp [setBlock, hlt]
  rcases K.find w hkey es.toList hk with ⟨h1, h2⟩ | ⟨j, e0, h1, h2, h3⟩
  · refine ⟨.map (es.push { key, val, born := clock }) (clock + 1), by simp [Instr.mapUpdate, run_underlying ht, MapKept.run_getObj_map hb, K.check w _ hkey, h1, MapKept.run_setObj_map _ hb, Result.andThen, setBlock], _, _, hset _, ?_, ?_, ?_⟩
    · intro e he
      simp only [Array.toList_push, List.mem_append, List.mem_singleton] at he
      rcases he with he | rfl
      · exact hk e he
      · exact ⟨kl, hkey⟩
    · simp only [Array.toList_push, List.map_append, List.map_cons, List.map_nil, List.pairwise_append]
      refine ⟨hd, by simp, fun a ha c hc => ?_⟩
      simp only [List.mem_singleton] at hc
      subst hc
      obtain ⟨e, he, rfl⟩ := List.mem_map.1 ha
      exact h2 e he
    · intro x v
      simp only [Array.toList_push, List.mem_append, List.mem_singleton]
      by_cases hx : x = key
      · subst hx
        rw [if_pos rfl]
        constructor
        · intro h; exact ⟨_, .inr rfl, rfl, Option.some.inj h⟩
        · rintro ⟨e, he | rfl, hek, hev⟩
          · exact absurd hek (h2 e he)
          · rw [← hev]
      · rw [if_neg hx, hF]
        constructor
        · rintro ⟨e, he, r⟩; exact ⟨e, .inl he, r⟩
        · rintro ⟨e, he | rfl, hek, hev⟩
          · exact ⟨e, he, hek, hev⟩
          · exact absurd hek.symm hx
  · have hm0 : e0 ∈ es.toList := List.mem_of_getElem? h2
    have hj : es[j]? = some e0 := by rw [← Array.getElem?_toList]; exact h2
    have hjs : j < es.size := (Array.getElem?_eq_some_iff.1 hj).1
    have hstay := K.stays w hkey
    have hl : (es.modify j fun e => { e with key := key, val := val }).toList = es.toList.set j { e0 with key := key, val := val } := by
      apply List.ext_getElem?
      intro i
      rw [Array.getElem?_toList, Array.getElem?_modify, List.getElem?_set]
      by_cases hij : j = i
      · subst hij
        rw [if_pos rfl, if_pos rfl, if_pos (by simpa using hjs), hj]; rfl
      · rw [if_neg hij, if_neg hij, Array.getElem?_toList]
    refine ⟨.map (es.modify j fun e => { e with key := key, val := val }) clock, by simp [Instr.mapUpdate, run_underlying ht, MapKept.run_getObj_map hb, K.check w _ hkey, h1, hj, h3, hstay, MapKept.run_setObj_map _ hb, Result.andThen, setBlock], _, _, hset _, ?_, ?_, ?_⟩
    · intro e he
      rw [hl, mem_set_key hd h2] at he
      rcases he with rfl | ⟨he, _⟩
      · exact ⟨kl, hkey⟩
      · exact hk e he
    · have hm : ((es.toList.set j { e0 with key := key, val := val }).map (·.key)) = es.toList.map (·.key) := by
        rw [List.map_set]
        apply List.ext_getElem?
        intro i
        rw [List.getElem?_set]
        by_cases hij : j = i
        · subst hij
          rw [if_pos rfl, if_pos (by rw [List.length_map]; simpa using hjs), List.getElem?_map, h2, Option.map_some, h3]
        · rw [if_neg hij]
      rw [hl, hm]; exact hd
    · intro x v
      rw [hl]
      (try simp only [])
      by_cases hx : x = key
      · subst hx
        rw [if_pos rfl]
        constructor
        · intro h; exact ⟨_, (mem_set_key hd h2 _).2 (.inl rfl), rfl, Option.some.inj h⟩
        · rintro ⟨e, he, hek, hev⟩
          rcases (mem_set_key hd h2 e).1 he with rfl | ⟨_, hne⟩
          · rw [← hev]
          · exact absurd (hek.trans h3.symm) hne
      · rw [if_neg hx, hF]
        constructor
        · rintro ⟨e, he, hek, hev⟩
          exact ⟨e, (mem_set_key hd h2 e).2 (.inr ⟨he, fun h => hx (hek.symm.trans (h.trans h3))⟩), hek, hev⟩
        · rintro ⟨e, he, hek, hev⟩
          rcases (mem_set_key hd h2 e).1 he with rfl | ⟨he, _⟩
          · exact absurd hek.symm hx
          · exact ⟨e, he, hek, hev⟩
end
end
end
section
section
open Go.RowKit Go.Maps
open Go.ChangeMaps (setBlock)
theorem ib_zero (l : List UInt8) : decide (0 ≤ Lib.indexByte l 0) = decide ((0 : UInt8) ∈ l) := by
  rw [← Lib.contains_iff_indexByte, List.contains_eq_mem]
open Classical in
/-- The keys had, as a map of bools. -/
noncomputable def hadF : List (List UInt8) → Value → Option Value
  | [], _ => none
  | k :: r, y => if y = strV k then some (.bool true) else hadF r y
theorem strV_inj {a b : List UInt8} (h : strV a = strV b) : a = b := by
  unfold strV at h
  injection h with h
  injection h with h
  simpa using h
theorem had_key {s : List UInt8} (h : s.length ≤ 9223372036854775807) : keyOf Tryz.prog 9 (strV s) = some (.string (⟨s.toArray⟩ : ByteArray).data.toList) :=
  Go.WideMaps.keyOf_string_mk Tryz.underlying9 (by unfold maxLen; simpa [ByteArray.size] using h)
theorem below_block {B : Nat} {a w : World} (h : Below B a w) {H : Nat} (hH : B ≤ H) (o : Obj) : Below B a (setBlock w H o) :=
  ⟨h.os, h.tape, h.output, by rw [size_setBlock]; exact h.size, fun i hi => (heap_setBlock_other w H i o (by omega)).trans (h.block i hi)⟩
end
end
end Go.Proofs.YtccmhhmdenfecaaGreatDoor
