/- Maps as functions: a block that holds a map reads as a partial function on values; the runs of lookup, update, delete. Over any program. The walk of tree.keyed: the first error in the keys of a node. -/
import Derived.Test.YtccmhhmdenfecaaGreatDoorT0
import Derived.Maps.Keyed
import Derived.Maps.Own
import Derived.DeepKeys4
import Derived.Test.YtccmhhmdenfecaaGreatDoorProg
import Derived.KernelRfl
import Derived.Test.YtccmhhmdenfecaaGreatDoorEa
import Derived.Test.YtccmhhmdenfecaaGreatDoorQa
import Derived.Test.YtccmhhmdenfecaaGreatDoorShelf
import Derived.StringKeys
import Derived.Lib.IndexAny
namespace Go.Proofs.YtccmhhmdenfecaaGreatDoor
set_option linter.unusedVariables false
set_option linter.unusedSimpArgs false
section
section
open Go.RowKit Go.Maps
open Go.ChangeMaps (setBlock)
/-- Block b is a map whose keys are of type k, and it reads as F. -/
def MapIs (P : Program) (k : TypeId) (w : World) (b : Nat) (F : Value → Option Value) : Prop :=
  ∃ es clock, w.heap[b]? = some (.map es clock) ∧ (∀ e ∈ es.toList, ∃ l, keyOf P k e.key = some l) ∧ (es.toList.map (·.key)).Pairwise (· ≠ ·) ∧
    ∀ x v, F x = some v ↔ ∃ e ∈ es.toList, e.key = x ∧ e.val = v
theorem key_inj {l : List MapEntry} (hd : (l.map (·.key)).Pairwise (· ≠ ·)) {i j : Nat} {e e' : MapEntry} (hi : l[i]? = some e) (hj : l[j]? = some e') (h : e.key = e'.key) : i = j := by
  have h0 : i < (l.map (·.key)).length := by
    rw [List.length_map]; exact (List.getElem?_eq_some_iff.1 hi).1
  exact (List.getElem?_inj h0 hd).1 (by rw [List.getElem?_map, List.getElem?_map, hi, hj, Option.map_some, Option.map_some, h])
theorem mem_set_key {l : List MapEntry} (hd : (l.map (·.key)).Pairwise (· ≠ ·)) {j : Nat} {e0 e' : MapEntry} (hj : l[j]? = some e0) (e : MapEntry) :
    e ∈ l.set j e' ↔ e = e' ∨ (e ∈ l ∧ e.key ≠ e0.key) := by
  have hjl : j < l.length := (List.getElem?_eq_some_iff.1 hj).1
  rw [List.mem_iff_getElem?]
  constructor
  · rintro ⟨i, hi⟩
    rw [List.getElem?_set] at hi
    split at hi
    · rename_i hij
      subst hij
      (try rw [if_pos hjl] at hi)
      exact .inl (Option.some.inj hi).symm
    · rename_i hij
      exact .inr ⟨List.mem_of_getElem? hi, fun hk => hij (key_inj hd hi hj hk).symm⟩
  · rintro (rfl | ⟨hm, hk⟩)
    · exact ⟨j, by rw [List.getElem?_set, if_pos rfl, if_pos hjl]⟩
    · obtain ⟨i, hi⟩ := List.mem_iff_getElem?.1 hm
      refine ⟨i, ?_⟩
      rw [List.getElem?_set, if_neg, hi]
      rintro rfl
      rw [hj] at hi
      exact hk (by rw [← Option.some.inj hi])
theorem mem_erase_key {l : List MapEntry} (hd : (l.map (·.key)).Pairwise (· ≠ ·)) {j : Nat} {e0 : MapEntry} (hj : l[j]? = some e0) (e : MapEntry) :
    e ∈ l.eraseIdx j ↔ e ∈ l ∧ e.key ≠ e0.key := by
  rw [List.mem_eraseIdx_iff_getElem?]
  constructor
  · rintro ⟨i, hij, hi⟩
    exact ⟨List.mem_of_getElem? hi, fun hk => hij (key_inj hd hi hj hk)⟩
  · rintro ⟨hm, hk⟩
    obtain ⟨i, hi⟩ := List.mem_iff_getElem?.1 hm
    refine ⟨i, ?_, hi⟩
    rintro rfl
    rw [hj] at hi
    exact hk (by rw [← Option.some.inj hi])
section
variable {P : Program} {k t el : TypeId} {w : World} {b : Nat} {F : Value → Option Value}
theorem MapIs.made (w : World) : MapIs P k (w.alloc (.map #[] 0)) w.heap.size (fun _ => none) :=
  ⟨#[], 0, heap_alloc_new _ _, by simp, by simp, by simp⟩
theorem MapIs.same {w' : World} (h : MapIs P k w b F) (e : w'.heap[b]? = w.heap[b]?) : MapIs P k w' b F := by
  obtain ⟨es, clock, hb, r⟩ := h
  exact ⟨es, clock, e.trans hb, r⟩
theorem MapIs.lt (h : MapIs P k w b F) : b < w.heap.size := by
  obtain ⟨es, clock, hb, _⟩ := h
  exact (Array.getElem?_eq_some_iff.1 hb).1
theorem MapIs.look (h : MapIs P k w b F) (c : Bool) (K : Keyed P k) (ht : P.underlying t = some (.map k el)) {z : Value} (hz : (zeroValue el).run P w = .ok z w) {key : Value} {kl : Lit} (hkey : keyOf P k key = some kl) :
    (Instr.lookup t (.map (some b)) key c).run P w = .ok (if c then .tuple #[(F key).getD z, .bool (F key).isSome] else (F key).getD z) w := by
  obtain ⟨es, clock, hb, hk, hd, hF⟩ := h
  rcases K.find w hkey es.toList hk with ⟨h1, h2⟩ | ⟨j, e0, h1, h2, h3⟩
  · have hn : F key = none := by
      cases hf : F key with
      | none => rfl
      | some v => obtain ⟨e, he, hek, _⟩ := (hF key v).1 hf; exact absurd hek (h2 e he)
    rw [hn]
    simp [Instr.lookup, run_underlying ht, MapKept.run_getObj_map hb, K.check w _ hkey, h1, hz, Result.andThen]
  · have hm0 : e0 ∈ es.toList := List.mem_of_getElem? h2
    have hs : F key = some e0.val := (hF key e0.val).2 ⟨e0, hm0, h3, rfl⟩
    rw [hs]
    simp [Instr.lookup, run_underlying ht, MapKept.run_getObj_map hb, K.check w _ hkey, h1, Result.andThen]
open Classical in
theorem MapIs.update (h : MapIs P k w b F) (K : Keyed P k) (ht : P.underlying t = some (.map k el)) {key val : Value} {kl : Lit} (hkey : keyOf P k key = some kl) :
    ∃ o, (Instr.mapUpdate t (.map (some b)) key val).run P w = .ok () (setBlock w b o) ∧ MapIs P k (setBlock w b o) b (fun y => if y = key then some val else F y) := by
  obtain ⟨es, clock, hb, hk, hd, hF⟩ := h
  have hlt : b < w.heap.size := (Array.getElem?_eq_some_iff.1 hb).1
  have hset : ∀ o, (setBlock w b o).heap[b]? = some o := fun o => by simp [setBlock, hlt]
  rcases K.find w hkey es.toList hk with ⟨h1, h2⟩ | ⟨j, e0, h1, h2, h3⟩
  · refine ⟨.map (es.push { key, val, born := clock }) (clock + 1), by simp [Instr.mapUpdate, run_underlying ht, MapKept.run_getObj_map hb, K.check w _ hkey, h1, MapKept.run_setObj_map _ hb, Result.andThen, setBlock], _, _, hset _, ?_, ?_, ?_⟩
    · intro e he
      simp only [Array.toList_push, List.mem_append, List.mem_singleton] at he
      rcases he with he | rfl
      · exact hk e he
      · exact ⟨kl, hkey⟩
    · simp only [Array.toList_push, List.map_append, List.map_cons, List.map_nil, List.pairwise_append]
      refine ⟨hd, by simp, fun a ha c hc => ?_⟩
      simp only [List.mem_singleton] at hc
      subst hc
      obtain ⟨e, he, rfl⟩ := List.mem_map.1 ha
      exact h2 e he
    · intro x v
      simp only [Array.toList_push, List.mem_append, List.mem_singleton]
      by_cases hx : x = key
      · subst hx
        rw [if_pos rfl]
        constructor
        · intro h; exact ⟨_, .inr rfl, rfl, Option.some.inj h⟩
        · rintro ⟨e, he | rfl, hek, hev⟩
          · exact absurd hek (h2 e he)
          · rw [← hev]
      · rw [if_neg hx, hF]
        constructor
        · rintro ⟨e, he, r⟩; exact ⟨e, .inl he, r⟩
        · rintro ⟨e, he | rfl, hek, hev⟩
          · exact ⟨e, he, hek, hev⟩
          · exact absurd hek.symm hx
  · have hm0 : e0 ∈ es.toList := List.mem_of_getElem? h2
    have hj : es[j]? = some e0 := by rw [← Array.getElem?_toList]; exact h2
    have hjs : j < es.size := (Array.getElem?_eq_some_iff.1 hj).1
    have hstay := K.stays w hkey
    have hl : (es.modify j fun e => { e with key := key, val := val }).toList = es.toList.set j { e0 with key := key, val := val } := by
      apply List.ext_getElem?
      intro i
      rw [Array.getElem?_toList, Array.getElem?_modify, List.getElem?_set]
      by_cases hij : j = i
      · subst hij
        rw [if_pos rfl, if_pos rfl, if_pos (by simpa using hjs), hj]; rfl
      · rw [if_neg hij, if_neg hij, Array.getElem?_toList]
    refine ⟨.map (es.modify j fun e => { e with key := key, val := val }) clock, by simp [Instr.mapUpdate, run_underlying ht, MapKept.run_getObj_map hb, K.check w _ hkey, h1, hj, h3, hstay, MapKept.run_setObj_map _ hb, Result.andThen, setBlock], _, _, hset _, ?_, ?_, ?_⟩
    · intro e he
      rw [hl, mem_set_key hd h2] at he
      rcases he with rfl | ⟨he, _⟩
      · exact ⟨kl, hkey⟩
      · exact hk e he
    · have hm : ((es.toList.set j { e0 with key := key, val := val }).map (·.key)) = es.toList.map (·.key) := by
        rw [List.map_set]
        apply List.ext_getElem?
        intro i
        rw [List.getElem?_set]
        by_cases hij : j = i
        · subst hij
          rw [if_pos rfl, if_pos (by rw [List.length_map]; simpa using hjs), List.getElem?_map, h2, Option.map_some, h3]
        · rw [if_neg hij]
      rw [hl, hm]; exact hd
    · intro x v
      rw [hl]
      (try simp only [])
      by_cases hx : x = key
      · subst hx
        rw [if_pos rfl]
        constructor
        · intro h; exact ⟨_, (mem_set_key hd h2 _).2 (.inl rfl), rfl, Option.some.inj h⟩
        · rintro ⟨e, he, hek, hev⟩
          rcases (mem_set_key hd h2 e).1 he with rfl | ⟨_, hne⟩
          · rw [← hev]
          · exact absurd (hek.trans h3.symm) hne
      · rw [if_neg hx, hF]
        constructor
        · rintro ⟨e, he, hek, hev⟩
          exact ⟨e, (mem_set_key hd h2 e).2 (.inr ⟨he, fun h => hx (hek.symm.trans (h.trans h3))⟩), hek, hev⟩
        · rintro ⟨e, he, hek, hev⟩
          rcases (mem_set_key hd h2 e).1 he with rfl | ⟨he, _⟩
          · exact absurd hek.symm hx
          · exact ⟨e, he, hek, hev⟩
open Classical in
theorem MapIs.del (h : MapIs P k w b F) (K : Keyed P k) (ht : P.underlying t = some (.map k el)) {key : Value} {kl : Lit} (hkey : keyOf P k key = some kl) (ty : TypeId) :
    ∃ o, (Builtin.delete_ #[t, k] ty #[.map (some b), key]).run P w = .ok (.tuple #[]) (setBlock w b o) ∧ MapIs P k (setBlock w b o) b (fun y => if y = key then none else F y) := by
  obtain ⟨es, clock, hb, hk, hd, hF⟩ := h
  have hlt : b < w.heap.size := (Array.getElem?_eq_some_iff.1 hb).1
  have hset : ∀ o, (setBlock w b o).heap[b]? = some o := fun o => by simp [setBlock, hlt]
  rcases K.find w hkey es.toList hk with ⟨h1, h2⟩ | ⟨j, e0, h1, h2, h3⟩
  · refine ⟨.map es clock, by simp [Builtin.delete_, run_underlying ht, MapKept.run_getObj_map hb, K.check w _ hkey, h1, MapKept.run_setObj_map _ hb, Result.andThen, setBlock], es, clock, hset _, hk, hd, fun x v => ?_⟩
    (try simp only [])
    by_cases hx : x = key
    · subst hx
      rw [if_pos rfl]
      exact ⟨fun h => (by cases h), fun ⟨e, he, hek, _⟩ => absurd hek (h2 e he)⟩
    · rw [if_neg hx, hF]
  · have hjl : j < es.toList.length := (List.getElem?_eq_some_iff.1 h2).1
    have hjs : j < es.size := by simpa using hjl
    have hsub : (es.eraseIdxIfInBounds j).toList = es.toList.eraseIdx j := by
      unfold Array.eraseIdxIfInBounds
      rw [dif_pos hjs]
      simp
    refine ⟨.map (es.eraseIdxIfInBounds j) clock, by simp [Builtin.delete_, run_underlying ht, MapKept.run_getObj_map hb, K.check w _ hkey, h1, MapKept.run_setObj_map _ hb, Result.andThen, setBlock], _, _, hset _, ?_, ?_, ?_⟩
    · intro e he
      rw [hsub, mem_erase_key hd h2] at he
      exact hk e he.1
    · rw [hsub]
      exact hd.sublist ((List.eraseIdx_sublist _ _).map _)
    · intro x v
      rw [hsub]
      (try simp only [])
      by_cases hx : x = key
      · subst hx
        rw [if_pos rfl]
        exact ⟨fun h => (by cases h), fun ⟨e, he, hek, _⟩ => absurd (hek.trans h3.symm) ((mem_erase_key hd h2 e).1 he).2⟩
      · rw [if_neg hx, hF]
        constructor
        · rintro ⟨e, he, hek, hev⟩
          exact ⟨e, (mem_erase_key hd h2 e).2 ⟨he, fun h => hx (hek.symm.trans (h.trans h3))⟩, hek, hev⟩
        · rintro ⟨e, he, hek, hev⟩
          exact ⟨e, ((mem_erase_key hd h2 e).1 he).1, hek, hev⟩
end
end
end
section
section
open Go.RowKit Go.Maps
open Go.ChangeMaps (setBlock)
theorem ib_zero (l : List UInt8) : decide (0 ≤ Lib.indexByte l 0) = decide ((0 : UInt8) ∈ l) := by
  rw [← Lib.contains_iff_indexByte, List.contains_eq_mem]
theorem zero_any (s : List UInt8) (w : World) : Calls Tryz.prog 78 #[strV s] w fun e w' => e = .returned (.bool (decide ((0 : UInt8) ∈ s))) ∧ w = w' := by
  have HI := Lib.hid (Tryz.strings_IndexByte ⟨s.toArray⟩ 0)
  have HZ := Lib.hid (ib_zero s)
  unfold strV
  go_enter Tryz.func78, Tryz.ntmps78
  go_wp2_with (go_at_call 79; refine (HI.out _).mono ?_; rintro e w1 ⟨rfl, rfl⟩)
  go_ret
  exact ⟨by rw [← HZ.out]; rfl, rfl⟩
open Classical in
/-- The keys had, as a map of bools. -/
noncomputable def hadF : List (List UInt8) → Value → Option Value
  | [], _ => none
  | k :: r, y => if y = strV k then some (.bool true) else hadF r y
theorem strV_inj {a b : List UInt8} (h : strV a = strV b) : a = b := by
  unfold strV at h
  injection h with h
  injection h with h
  simpa using h
theorem hadF_at (k : List UInt8) : ∀ had : List (List UInt8), (hadF had (strV k)).getD (.bool false) = .bool (decide (k ∈ had))
  | [] => by simp [hadF]
  | x :: r => by
    rw [hadF]
    by_cases h : k = x
    · subst h
      rw [if_pos rfl]
      simp
    · rw [if_neg (fun e => h (strV_inj e)), hadF_at k r]
      simp [h]
theorem had_key {s : List UInt8} (h : s.length ≤ 9223372036854775807) : keyOf Tryz.prog 9 (strV s) = some (.string (⟨s.toArray⟩ : ByteArray).data.toList) :=
  Go.WideMaps.keyOf_string_mk Tryz.underlying9 (by unfold maxLen; simpa [ByteArray.size] using h)
theorem zero_bool (w : World) : (zeroValue 4).run Tryz.prog w = .ok (.bool false) w := by kernel_rfl
theorem had_look {w : World} {H : Nat} {had : List (List UInt8)} (h : MapIs Tryz.prog 9 w H (hadF had)) {k : List UInt8} (hk : k.length ≤ 9223372036854775807) :
    (Instr.lookup 128 (.map (some H)) (strV k) false).run Tryz.prog w = .ok (.bool (decide (k ∈ had))) w := by
  have := h.look false (string_keyed Tryz.underlying9) (t := 128) (el := 4) Tryz.underlying128 (zero_bool w) (had_key hk)
  rw [this]
  show Result.ok ((hadF had (strV k)).getD (.bool false)) w = _
  rw [hadF_at]
theorem had_put {w : World} {H : Nat} {had : List (List UInt8)} (h : MapIs Tryz.prog 9 w H (hadF had)) {k : List UInt8} (hk : k.length ≤ 9223372036854775807) :
    ∃ o, (Instr.mapUpdate 128 (.map (some H)) (strV k) (.bool true)).run Tryz.prog w = .ok () (setBlock w H o) ∧ MapIs Tryz.prog 9 (setBlock w H o) H (hadF (k :: had)) := by
  obtain ⟨o, h1, h2⟩ := h.update (string_keyed Tryz.underlying9) (t := 128) (el := 4) Tryz.underlying128 (val := .bool true) (had_key hk)
  exact ⟨o, h1, h2⟩
theorem below_block {B : Nat} {a w : World} (h : Below B a w) {H : Nat} (hH : B ≤ H) (o : Obj) : Below B a (setBlock w H o) :=
  ⟨h.os, h.tape, h.output, by rw [size_setBlock]; exact h.size, fun i hi => (heap_setBlock_other w H i o (by omega)).trans (h.block i hi)⟩
theorem made2 (w : World) (o : Obj) : MapIs Tryz.prog 9 ((w.alloc o).alloc (.map #[] 0)) (w.heap.size + 1) (hadF []) := by
  have := MapIs.made (P := Tryz.prog) (k := 9) (w.alloc o)
  rw [World.size_alloc] at this
  have e : hadF [] = fun _ => none := by
    funext y
    rw [hadF]
  rw [e]
  exact this
set_option maxRecDepth 100000 in
set_option maxHeartbeats 8000000 in
theorem keyed_any (kd nn u : Int) (s : List UInt8) (ks : List (List UInt8)) (l : List DT) (w : World) (x0 x1 x2 x3 x4 x5 : Value) (hx : RRep w (.mk kd nn u s ks l) [x0, x1, x2, x3, x4, x5]) (hkl : ∀ k ∈ ks, k.length ≤ 9223372036854775807) :
    Calls Tryz.prog 45 #[.agg #[x0, x1, x2, x3, x4, x5]] w fun e w' => e = .returned (.int .i64 (keyedD (.mk kd nn u s ks l))) ∧ Below w.heap.size w w' := by
  obtain ⟨A1, c1, A2, c2, xs, hcs, hk, hl, hkids⟩ := hx.form
  simp only [List.cons.injEq, and_true] at hcs
  obtain ⟨rfl, rfl, rfl, rfl, rfl, rfl⟩ := hcs
  have hbk := hk.bound
  have HK := Lib.hid hk
  have HKL := Lib.hid hkl
  have HZ := Lib.hid (zero_any s)
  obtain ⟨r, hr⟩ : ∃ r, r = keyedD (.mk kd nn u s ks l) := ⟨_, rfl⟩
  rw [← hr]
  clear hx hk hl hkids hkl
  obtain ⟨q, hq⟩ : ∃ q, q = ks.length := ⟨_, rfl⟩
  rw [← hq] at hbk ⊢
  have HQ := Lib.hid hq
  generalize l.length = m at *
  unfold strV at HZ ⊢
  obtain ⟨z, hz⟩ : ∃ z, z = decide ((0 : UInt8) ∈ s) := ⟨_, rfl⟩
  rw [← hz] at HZ
  have hmm := @run_makeMap Tryz.prog
  by_cases hA : kd = 5 ∧ z = true
  · obtain ⟨h1, h2⟩ := hA
    have hr2 : r = 70 := by rw [hr, keyedD, if_pos ⟨h1, by rw [h2] at hz; exact of_decide_eq_true hz.symm⟩]
    subst h1 h2 hr2
    clear hr hz hq hmm
    go_enter Tryz.func45, Tryz.ntmps45
    go_wp2_with (go_at_call 78; refine (HZ.out _).mono ?_; rintro e w1 ⟨rfl, rfl⟩)
    go_ret
    exact ⟨rfl, by exact zw⟩
  · have hr2 : r = keysE [] ks := by rw [hr, keyedD, if_neg (fun h => hA ⟨h.1, by rw [hz]; exact decide_eq_true h.2⟩)]
    have HR2 := Lib.hid hr2
    clear hr hr2 hz hq
    have hk5 : (kd == 5) = false ∨ (kd = 5 ∧ z = false) := by
      by_cases h : kd = 5
      · right; exact ⟨h, by cases z with | true => exact absurd ⟨h, rfl⟩ hA | false => rfl⟩
      · left; simpa using h
    have HK5 := Lib.hid hk5
    clear hk5 hA
    go_enter Tryz.func45, Tryz.ntmps45
    rcases HK5.out with h5 | ⟨rfl, rfl⟩
    case' inl => go_upto_region 5 with fail
    case' inr => go_upto_region 5 with (go_at_call 78; refine (HZ.out _).mono ?_; rintro e w1 ⟨rfl, rfl⟩)
    all_goals
      clear hmm
      refine wp_named (fun wn => Below w.heap.size w wn ∧ w.heap.size < wn.heap.size ∧ wn.cell? ⟨w.heap.size, 4, none⟩ = some (.slice A1 q c1) ∧ MapIs Tryz.prog 9 wn (w.heap.size + 1) (hadF [])) ⟨by exact zw, by simp; omega, by go_simp, ?_⟩ ?_
      case' refine_1 =>
        exact made2 _ _
      rintro wn ⟨hb, hz, x4, hM⟩
      have HB := Lib.hid hb
      have HM := Lib.hid hM
      clear hb hM
      go_wp2_with fail
      clear x4
      go_loopw [20] (fun i wr => ∃ (k : Nat) (had : List (List UInt8)), k ≤ q ∧ i = .int .i64 k ∧ Hid (r = keysE had (ks.drop k)) ∧ MapIs Tryz.prog 9 wr (w.heap.size + 1) (hadF had) ∧ Below w.heap.size w wr) (fun i _ => q - (intOf i).toNat)
      case atStart => exact ⟨0, [], by omega, rfl, Lib.hid (by rw [HR2.out]; rfl), HM.out, HB.out⟩
      case round =>
        rename_i wr
        obtain ⟨k, had, hk, rfl, hE, hM, hbr⟩ := hrel
        by_cases h1 : k < q
        · have h1' : (k : Int) < (q : Int) := by omega
          have hkl : k < ks.length := by rw [← HQ.out]; exact h1
          have hRd : Rd w (.slice A1 q c1) 1 ks.length (ks.map strV) := by
            have := HK.out
            have e := HQ.out
            rw [← e] at this ⊢
            exact this
          obtain ⟨b, o, rfl, hblt, hblr, hcell⟩ := hRd.text hbr k hkl
          have hkn := HKL.out _ (List.getElem_mem hkl)
          have hE2 := hE.out
          rw [List.drop_eq_getElem_cons hkl, keysE] at hE2
          generalize ks[k] = x at *
          have HZ1 := Lib.hid (zero_any x)
          have hlook := had_look hM hkn
          obtain ⟨ob, hput, hM2⟩ := had_put hM hkn
          unfold strV at HZ1 hlook hput
          by_cases e1 : (0 : UInt8) ∈ x
          · rw [if_pos e1] at hE2
            rw [decide_eq_true e1] at HZ1
            subst hE2
            have HBR := Lib.hid hbr
            clear hbr hlook hput hM hM2 e1 hkn hE hRd
            go_wp2_with (go_at_call 78; refine (HZ1.out _).mono ?_; rintro e w1 ⟨rfl, rfl⟩)
            go_ret
            exact ⟨rfl, HBR.out⟩
          · rw [if_neg e1] at hE2
            rw [decide_eq_false e1] at HZ1
            by_cases e2 : x ∈ had
            · rw [if_pos e2] at hE2
              rw [decide_eq_true e2] at hlook
              subst hE2
              have HBR := Lib.hid hbr
              clear hbr hput hM hM2 e1 e2 hkn hE hRd
              go_wp2_with (go_at_call 78; refine (HZ1.out _).mono ?_; rintro e w1 ⟨rfl, rfl⟩)
              go_ret
              exact ⟨rfl, HBR.out⟩
            · rw [if_neg e2] at hE2
              rw [decide_eq_false e2] at hlook
              have HE2 := Lib.hid hE2
              have HM2 := Lib.hid hM2
              have HBR := Lib.hid (below_block hbr (H := w.heap.size + 1) (by omega) ob)
              clear hbr hM hM2 e1 e2 hkn hE hRd hE2
              go_wp2_with (go_at_call 78; refine (HZ1.out _).mono ?_; rintro e w1 ⟨rfl, rfl⟩)
              go_roundw
              case rel => exact ⟨k + 1, x :: had, by omega, by go_num, HE2, HM2.out, HBR.out⟩
              case measure => simp only [intOf]; omega
        · have h1' : ¬ (k : Int) < (q : Int) := by omega
          have hE2 := hE.out
          rw [List.drop_of_length_le (by rw [← HQ.out]; omega), keysE] at hE2
          subst hE2
          have HBR := Lib.hid hbr
          clear hbr hM hE
          go_wp2_with fail
          go_ret
          exact ⟨rfl, HBR.out⟩
end
end
end Go.Proofs.YtccmhhmdenfecaaGreatDoor
