/- The walks of parse.reader's past and each. -/
import Derived.Test.YtccmhhmdenfecaaGreatDoorJb
namespace Go.Proofs.YtccmhhmdenfecaaGreatDoor
set_option linter.unusedVariables false
set_option linter.unusedSimpArgs false
open Go.RowKit Go.Shelf
/-- parse.reader's past. -/
theorem past_any (s : List UInt8) (t : Tok) (many : Int) (R : Nat) (k : Int) (w : World) (h : PRow w R s t many) (hl : s.length ≤ 1073741824) (hG : Glb w) (hB : Gb R) :
    Calls Tryz.prog 93 #[.pointer (some ⟨R, 0, none⟩), .int .i64 k] w fun o w' => if t.kind = k then NextPost w R s many (nextP s t) o w' else o = .panicked (panV (t.from_, 100)) ∧ w = w' := by
  obtain ⟨-, c1, -⟩ := h.cells
  have HN := Lib.hid (nextr_any s t many R w h hl hG hB)
  have HY := Lib.hid (need_any s t many R)
  have HP := Lib.hid h
  generalize nextP s t = r at *
  clear h hG hB
  by_cases hk : t.kind = k
  · have e1 : (t.kind == k) = true := by simp [hk]
    rw [hk] at e1 c1
    simp only [if_pos hk]
    clear hk
    go_enter Tryz.func93, Tryz.ntmps93
    go_wp2_with fail
    refine (HY.out true 100 w HP.out).mono ?_
    rintro o w1 ⟨rfl, rfl⟩
    go_wp2_with fail
    refine HN.out.mono ?_
    rintro o w1 hn
    cases r with
    | error x =>
      obtain ⟨ht, rfl⟩ := hn
      exact ⟨rfl, ht, rfl⟩
    | ok t1 =>
      obtain ⟨ht, rfl, hp⟩ := hn
      go_wp2_with fail
      go_end0
      exact ⟨ht, rfl, hp⟩
  · have e1 : (t.kind == k) = false := by simp [hk]
    simp only [if_neg hk]
    clear hk
    go_enter Tryz.func93, Tryz.ntmps93
    go_wp2_with fail
    refine (HY.out false 100 w HP.out).mono ?_
    rintro o w1 ⟨rfl, rfl⟩
    exact ⟨rfl, rfl, rfl⟩
/-- One element: what stands ahead of the value, and the value. -/
def oneR (s : List UInt8) (g : Nat) (mp : Bool) (deep : Int) (t : Tok) (many : Int) (ks : List (List UInt8)) : PE (List (List UInt8) × DT × Tok × Int) :=
  match headP s mp ks t with
  | .error x => .error x
  | .ok (ks1, t1) => match valP s g deep t1 many with
    | .error x => .error x
    | .ok (T, t2, m) => .ok (ks1, T, t2, m)
/-- Behind an element that is not the last. -/
def moreR (s : List UInt8) (mp : Bool) (t2 : Tok) : PE Tok :=
  if t2.kind ≠ 5 then .error (t2.from_, 100)
  else if (nextM s t2.to_).2 = 0 ∧ (nextM s t2.to_).1.kind = lastP mp then .error ((nextM s t2.to_).1.from_, 100)
  else nextP s t2
theorem each_succ (s : List UInt8) (g : Nat) (mp : Bool) (deep : Int) (t : Tok) (many : Int) (ks : List (List UInt8)) (acc : List DT) : eachP s (g + 1) mp deep t many ks acc =
    if t.kind = lastP mp then shutP s ks acc t many
    else match oneR s g mp deep t many ks with
      | .error x => .error x
      | .ok (ks1, T, t2, m) =>
        if t2.kind = lastP mp then shutP s ks1 (acc ++ [T]) t2 m
        else match moreR s mp t2 with
          | .error x => .error x
          | .ok t3 => eachP s g mp deep t3 m ks1 (acc ++ [T]) := by
  rw [eachP]
  unfold oneR moreR
  split
  · rfl
  cases headP s mp ks t with
  | error x => rfl
  | ok p =>
    obtain ⟨ks1, t1⟩ := p
    dsimp only
    cases valP s g deep t1 many with
    | error x => rfl
    | ok q =>
      obtain ⟨T, t2, m⟩ := q
      dsimp only
      split
      · rfl
      split
      · rfl
      split
      · rfl
      cases nextP s t2 <;> rfl
theorem one_more {s : List UInt8} {g : Nat} {mp : Bool} {deep : Int} {t : Tok} {many : Int} {ks ks1 : List (List UInt8)} {T : DT} {t2 : Tok} {m : Int} (h : oneR s g mp deep t many ks = .ok (ks1, T, t2, m)) : many < m ∧ m ≤ 4096 := by
  unfold oneR at h
  split at h
  · cases h
  split at h
  · cases h
  · rename_i hv
    cases h
    exact (val_more s g).1 _ _ _ _ _ _ hv
/-- What one element leaves. -/
def OneP (B : Nat) (R : Nat) (s : List UInt8) (J : List (List UInt8) → List DT → World → Prop) (acc : List DT) (W : World) (r : PE (List (List UInt8) × DT × Tok × Int)) (o : Ending) (w' : World) : Prop :=
  Tch B [R] W w' ∧ match r with
  | .ok (ks1, T, t2, m) => o = .returned (.tuple #[]) ∧ PRow w' R s t2 m ∧ J ks1 (acc ++ [T]) w'
  | .error x => o = .panicked (panV x)
/-- What all of them leave. -/
def EachPost (B : Nat) (R : Nat) (s : List UInt8) (J : List (List UInt8) → List DT → World → Prop) (W : World) (r : ER) (o : Ending) (w' : World) : Prop :=
  Tch B [R] W w' ∧ match r with
  | .ok (ks, l, t1, m) => o = .returned (.tuple #[]) ∧ PRow w' R s t1 m ∧ J ks l w'
  | .error x => o = .panicked (panV x)
/-- The parser's state and the closure's, at a world on the way. -/
structure EaW (B R : Nat) (s : List UInt8) (J : List (List UInt8) → List DT → World → Prop) (w : World) (t : Tok) (many : Int) (ks : List (List UInt8)) (acc : List DT) (wr : World) : Prop where
  p : PRow wr R s t many
  j : J ks acc wr
  f : Tch B [R] w wr
  b : B ≤ wr.heap.size
  n : (acc.length : Int) ≤ many
theorem EaW.glb {B R : Nat} {s : List UInt8} {J : List (List UInt8) → List DT → World → Prop} {w : World} {t : Tok} {many : Int} {ks : List (List UInt8)} {acc : List DT} {wr : World} (h : EaW B R s J w t many ks acc wr) (hG : Glb w) (hR : Gb R) (hB : R < B) : Glb wr := hG.tch h.f (hR.mono (Nat.le_of_lt hB)) hR
theorem EaW.quiet {B R : Nat} {s : List UInt8} {J : List (List UInt8) → List DT → World → Prop} {w : World} {t : Tok} {many : Int} {ks : List (List UInt8)} {acc : List DT} {wr w1 : World} (h : EaW B R s J w t many ks acc wr) (hJ : ∀ ks acc W W', Touch [R] W W' → J ks acc W → J ks acc W') (hb : Below wr.heap.size wr w1) : EaW B R s J w t many ks acc w1 :=
  ⟨h.p.below hb, hJ _ _ _ _ (Touch.quiet hb) h.j, h.f.trans ((Touch.quiet hb).tch h.b), Nat.le_trans h.b hb.size, h.n⟩
theorem EaW.next {B R : Nat} {s : List UInt8} {J : List (List UInt8) → List DT → World → Prop} {w : World} {t t1 : Tok} {many : Int} {ks : List (List UInt8)} {acc : List DT} {wr w1 : World} (h : EaW B R s J w t many ks acc wr) (hJ : ∀ ks acc W W', Touch [R] W W' → J ks acc W → J ks acc W') (ht : Touch [R] wr w1) (hp : PRow w1 R s t1 many) : EaW B R s J w t1 many ks acc w1 :=
  ⟨hp, hJ _ _ _ _ ht h.j, h.f.trans (ht.tch h.b), Nat.le_trans h.b ht.size, h.n⟩
def pEl (R : Nat) (s : List UInt8) (tk : Tok) (kd fr to1 n1 : Int) (u1 : Int) (tx : List UInt8) (er : Int) : Posts := fun b t v w => match t with
  | 0 => v = .pointer (some ⟨R, 0, none⟩)
  | 37 => v = .pointer (some ⟨R, 0, none⟩)
  | 38 => v = .pointer (some ⟨R, 0, none⟩)
  | 39 => v = .pointer (some ⟨R, 0, none⟩)
  | 40 => v = .string ⟨s.toArray⟩
  | 41 => v = .pointer (some ⟨R, 0, none⟩)
  | 42 => v = .pointer (some ⟨R, 0, none⟩)
  | 43 => v = .pointer (some ⟨R, 1, none⟩)
  | 44 => v = .pointer (some ⟨R, 3, none⟩)
  | 45 => v = .int .i64 tk.to_
  | 46 => v = .tuple #[.agg #[.int .i64 kd, .int .i64 fr, .int .i64 to1, .int .i64 n1, .int .u64 u1, .string ⟨tx.toArray⟩], .int .i64 er]
  | 36 => v = .tuple #[.agg #[.int .i64 kd, .int .i64 fr, .int .i64 to1, .int .i64 n1, .int .u64 u1, .string ⟨tx.toArray⟩], .int .i64 er]
  | 47 => v = .agg #[.int .i64 kd, .int .i64 fr, .int .i64 to1, .int .i64 n1, .int .u64 u1, .string ⟨tx.toArray⟩]
  | 48 => v = .int .i64 er
  | 6 => v = .pointer (some ⟨b, 0, none⟩)
  | 7 => v = .int .i64 er
  | _ => True
theorem pEl_st (R : Nat) (s : List UInt8) (tk : Tok) (kd fr to1 n1 : Int) (u1 : Int) (tx : List UInt8) (er : Int) : ∀ (b : Nat) (t : Tmp) (v : Value) (w w' : World), ExtB b w w' → pEl R s tk kd fr to1 n1 u1 tx er b t v w → pEl R s tk kd fr to1 n1 u1 tx er b t v w' := by
  intro b t v w w' hE
  unfold pEl
  split
  · exact id
  · exact id
  · exact id
  · exact id
  · exact id
  · exact id
  · exact id
  · exact id
  · exact id
  · exact id
  · exact id
  · exact id
  · exact id
  · exact id
  · exact id
  · exact id
  · exact id
set_option maxHeartbeats 16000000 in
set_option maxRecDepth 100000 in
theorem each_l (s : List UInt8) (R B G : Nat) (deep : Int) (C0 C1 C2 : Nat) (J : List (List UInt8) → List DT → World → Prop) (hJ : ∀ ks acc W W', Touch [R] W W' → J ks acc W → J ks acc W') (hl : s.length ≤ 1073741824) (hRB : R < B) (hGR : Gb R)
    (w : World) (hGl : Glb w)
    (HO : ∀ (g : Nat) (W : World) (t : Tok) (many : Int) (ks : List (List UInt8)) (acc : List DT), g < G → EaW B R s J w t many ks acc W → 0 ≤ many → many ≤ 4096 → 2 * (4096 - many) + 1 ≤ g → Calls Tryz.prog 90 #[.pointer (some ⟨C0, 0, none⟩), .pointer (some ⟨C1, 0, none⟩), .pointer (some ⟨C2, 0, none⟩)] W (OneP B R s J acc W (oneR s g false deep t many ks)))
    (t : Tok) (many : Int) (g : Nat) (ks : List (List UInt8)) (acc : List DT) (hP : PRow w R s t many) (hJ0 : J ks acc w) (hBw : B ≤ w.heap.size) (hn0 : (acc.length : Int) ≤ many) (hg : g ≤ G) (hm0 : 0 ≤ many) (hm : many ≤ 4096) (hf : 2 * (4096 - many) + 2 ≤ g) :
    Calls Tryz.prog 89 #[.pointer (some ⟨R, 0, none⟩), .int .i64 4, .func (.func 90) #[] #[.pointer (some ⟨C0, 0, none⟩), .pointer (some ⟨C1, 0, none⟩), .pointer (some ⟨C2, 0, none⟩)]] w (EachPost B R s J w (match nextP s t with | .error x => .error x | .ok t1 => eachP s g false deep t1 many ks acc)) := by
  have hE0 : EaW B R s J w t many ks acc w := ⟨hP, hJ0, Tch.refl _ _ _, hBw, hn0⟩
  have HN := Lib.hid fun (W : World) (tt : Tok) (m : Int) (h : PRow W R s tt m) (hg : Glb W) => nextr_any s tt m R W h hl hg hGR
  have HY := Lib.hid (need_any s)
  have HPA := Lib.hid fun (W : World) (tt : Tok) (m : Int) (h : PRow W R s tt m) (hg : Glb W) => past_any s tt m R 5 W h hl hg hGR
  have HLX := Lib.hid fun (W : World) (a : Int) (hg : Glb W) (hb : Gb W.heap.size) => next_any s a W hl hg hb
  have HO := Lib.hid HO
  have HJ := Lib.hid hJ
  have HGL := Lib.hid hGl
  have HGR := Lib.hid hGR
  have HE0 := Lib.hid hE0
  clear hJ0 hGl hGR hJ
  generalize hres : (match nextP s t with | .error x => .error x | .ok t1 => eachP s g false deep t1 many ks acc : ER) = res
  have HR := Lib.hid hres
  clear hres
  go_enter Tryz.func89, Tryz.ntmps89
  go_wp2_with fail
  refine (HN.out w t many HE0.out.p HGL.out).mono ?_
  rintro o w1 ⟨ht, hn⟩
  cases hq : nextP s t with
  | error x =>
    rw [hq] at hn
    obtain rfl := hn
    have e := HR.out
    rw [hq] at e
    rw [← e]
    exact ⟨rfl, ht.tch hBw, rfl⟩
  | ok t1 =>
    rw [hq] at hn
    obtain ⟨rfl, hp1⟩ := hn
    have hR1 := HR.out
    rw [hq] at hR1
    dsimp only at hR1
    have hE1 := HE0.out.next HJ.out ht hp1
    have HE1 := Lib.hid hE1
    have HR1 := Lib.hid hR1
    clear hR1 HR hq ht hp1 hE1 hE0 hP HE0
    go_wp2_with fail
    go_loopw [7] (fun _ wr => ∃ (g : Nat) (t : Tok) (many : Int) (ks : List (List UInt8)) (acc : List DT), g ≤ G ∧ 0 ≤ many ∧ many ≤ 4096 ∧ 2 * (4096 - many) + 2 ≤ g ∧ EaW B R s J w t many ks acc wr ∧ Hid (eachP s g false deep t many ks acc = res)) (fun _ wr => 4096 - (intOf ((wr.cell? ⟨R, 7, none⟩).getD undef)).toNat)
    case atStart => exact ⟨g, t1, many, ks, acc, hg, hm0, hm, hf, HE1.out, HR1⟩
    case round =>
      rename_i wr hK0
      clear HE1 HR1 hf hm hm0 hg
      obtain ⟨g1, t, many, ks, acc, hg, hm0, hm, hf, hE, hR⟩ := hrel
      obtain ⟨g, rfl⟩ : ∃ g, g1 = g + 1 := ⟨g1 - 1, by omega⟩
      have hR1 := hR.out
      rw [each_succ] at hR1
      have hGr := hE.glb HGL.out HGR.out hRB
      obtain ⟨c0, c1, c2, c3, c4, c5, c6, c7, cf⟩ := hE.p.cells
      have HW7 := Lib.hid c7
      have HE := Lib.hid hE
      by_cases h1 : t.kind = 4
      · rw [if_pos (show t.kind = lastP false from h1)] at hR1
        rw [h1] at c1
        have HR1 := Lib.hid hR1
        have HNX := Lib.hid (HN.out wr t many hE.p hGr)
        clear hR hR1 hE hGr c0 c2 c3 c4 c5 c6 c7 cf h1
        go_wp2_with fail
        refine HNX.out.mono ?_
        rintro o w2 ⟨ht, hn⟩
        cases hq : nextP s t with
        | error x =>
          rw [hq] at hn
          obtain rfl := hn
          have e := HR1.out
          unfold shutP at e
          rw [hq] at e
          have hfin : EachPost B R s J w res (.panicked (panV x)) w2 := by rw [← e]; exact ⟨HE.out.f.trans (ht.tch HE.out.b), rfl⟩
          exact ⟨rfl, hfin⟩
        | ok t2 =>
          rw [hq] at hn
          obtain ⟨rfl, hp2⟩ := hn
          have e := HR1.out
          unfold shutP at e
          rw [hq] at e
          have HX := Lib.hid (HE.out.next HJ.out ht hp2)
          have HRE := Lib.hid e
          clear hq hp2 ht e HR1 HNX
          go_wp2_with fail
          go_end0
          rw [← HRE.out]
          exact ⟨HX.out.f, rfl, HX.out.p, HX.out.j⟩
      · rw [if_neg (show ¬ t.kind = lastP false from h1)] at hR1
        have e1 : (t.kind != 4) = true := by simp [h1]
        have HR1 := Lib.hid hR1
        have HON := Lib.hid (HO.out g wr t many ks acc (by omega) hE hm0 hm (by omega))
        clear hR hR1 hE hGr c0 c2 c3 c4 c5 c6 c7 cf h1
        go_wp2_with fail
        refine HON.out.mono ?_
        rintro o w2 ⟨hf2, hn⟩
        cases hq : oneR s g false deep t many ks with
        | error x =>
          rw [hq] at hn
          obtain rfl := hn
          have e := HR1.out
          rw [hq] at e
          have hfin : EachPost B R s J w res (.panicked (panV x)) w2 := by rw [← e]; exact ⟨HE.out.f.trans hf2, rfl⟩
          exact ⟨rfl, hfin⟩
        | ok p =>
          obtain ⟨ks1, T, t2, m⟩ := p
          rw [hq] at hn
          obtain ⟨rfl, hp2, hj2⟩ := hn
          have e := HR1.out
          rw [hq] at e
          dsimp only at e
          obtain ⟨hm1, hm2⟩ := one_more hq
          have hE : EaW B R s J w t2 m ks1 (acc ++ [T]) w2 := ⟨hp2, hj2, HE.out.f.trans hf2, Nat.le_trans HE.out.b hf2.size, by have := HE.out.n; rw [List.length_append, List.length_singleton]; omega⟩
          have hGr := hE.glb HGL.out HGR.out hRB
          obtain ⟨c0, c1, c2, c3, c4, c5, c6, c7, cf⟩ := hE.p.cells
          clear HR1 HON hq hp2 hj2 hf2 e1 HE
          have HE := Lib.hid hE
          by_cases h1 : t2.kind = 4
          · rw [if_pos (show t2.kind = lastP false from h1)] at e
            rw [h1] at c1
            have HR1 := Lib.hid e
            have HNX := Lib.hid (HN.out w2 t2 m hE.p hGr)
            clear e hE hGr c0 c2 c3 c4 c5 c6 c7 cf h1
            go_wp2_with fail
            refine HNX.out.mono ?_
            rintro o w3 ⟨ht, hn⟩
            cases hq : nextP s t2 with
            | error x =>
              rw [hq] at hn
              obtain rfl := hn
              have e := HR1.out
              unfold shutP at e
              rw [hq] at e
              have hfin : EachPost B R s J w res (.panicked (panV x)) w3 := by rw [← e]; exact ⟨HE.out.f.trans (ht.tch HE.out.b), rfl⟩
              exact ⟨rfl, hfin⟩
            | ok t3 =>
              rw [hq] at hn
              obtain ⟨rfl, hp3⟩ := hn
              have e := HR1.out
              unfold shutP at e
              rw [hq] at e
              have HX := Lib.hid (HE.out.next HJ.out ht hp3)
              have HRE := Lib.hid e
              clear hq hp3 ht e HR1 HNX
              go_wp2_with fail
              go_end0
              rw [← HRE.out]
              exact ⟨HX.out.f, rfl, HX.out.p, HX.out.j⟩
          · rw [if_neg (show ¬ t2.kind = lastP false from h1)] at e
            have e1 : (t2.kind == 4) = false := by simp [h1]
            unfold moreR at e
            by_cases h5 : t2.kind = 5
            · have e5 : (t2.kind == 5) = true := by simp [h5]
              rw [if_neg (show ¬ t2.kind ≠ 5 by simp [h5])] at e
              have HR1 := Lib.hid e
              have HNE := Lib.hid (HY.out t2 m R true 100 w2 hE.p)
              clear e hE c0 c2 c3 c4 c5 c6 c7 cf h1
              go_wp2_with fail
              refine HNE.out.mono ?_
              rintro o w3 ⟨rfl, rfl⟩
              clear HNE e1 e5 c1
              obtain ⟨c0, -, -, c3, -⟩ := HE.out.p.cells
              unfold strV at c0
              have hR := HE.out.p.lt
              have HL := Lib.hid fun (W : World) (hW : Below w2.heap.size w2 W) => HLX.out W t2.to_ (hGr.below hW (HGR.out.mono (Nat.le_of_lt hR))) (HGR.out.mono (Nat.le_trans (Nat.le_of_lt hR) hW.size))
              have HPA2 := Lib.hid fun (W : World) (h : PRow W R s t2 m) (hg : Glb W) => HPA.out W t2 m h hg
              have HNP := Lib.hid (show nextP s t2 = if (nextM s t2.to_).2 ≠ 0 then .error ((nextM s t2.to_).1.from_, (nextM s t2.to_).2) else .ok (nextM s t2.to_).1 from rfl)
              generalize hqq : nextM s t2.to_ = q at *
              obtain ⟨⟨kd, fr, to1, n1, u1, tx⟩, er⟩ := q
              unfold trV tokV strV at HL
              dsimp only at HL HR1 HNP
              go_upto_region 6 with fail
              refine wp_region_eachMP (n := 63) (ia := 13) (ob := .cells #[.int .i64 0, .int .i64 0, .int .i64 0, .int .i64 0, .int .u64 0, .string ⟨#[]⟩] 43) [14] [37, 38, 39, 40, 41, 42, 43, 44, 45, 46, 36, 47, 48, 6, 7] (pEl R s t2 kd fr to1 n1 u1 tx er) (blkK kd fr to1 n1 u1 tx) (by kernel_rfl) (by kernel_rfl) rfl (by kernel_rfl) (pEl_st R s t2 kd fr to1 n1 u1 tx er) (blkK_st kd fr to1 n1 u1 tx) (blkK_sc kd fr to1 n1 u1 tx) ?_ rfl rfl rfl (V := fun b => .pointer (some ⟨b, 0, none⟩)) ?_ (fun _ _ => rfl) ?_ (by decide) (by decide) ?_ ?_ ?_ ?_
              · intro b hb t ht
                unfold pEl
                split
                · rfl
                · exact absurd rfl (ht 0 _ rfl)
                · exact absurd rfl (ht 1 _ rfl)
                · exact absurd rfl (ht 2 _ rfl)
                · exact absurd rfl (ht 3 _ rfl)
                · exact absurd rfl (ht 4 _ rfl)
                · exact absurd rfl (ht 5 _ rfl)
                · exact absurd rfl (ht 6 _ rfl)
                · exact absurd rfl (ht 7 _ rfl)
                · exact absurd rfl (ht 8 _ rfl)
                · exact absurd rfl (ht 9 _ rfl)
                · exact absurd rfl (ht 10 _ rfl)
                · exact absurd rfl (ht 11 _ rfl)
                · exact absurd rfl (ht 12 _ rfl)
                · exact absurd rfl (ht 13 _ rfl)
                · exact absurd rfl (ht 15 _ rfl)
                · trivial
              · intro a w K hK
                exact opwp_val (w' := w.alloc (.cells #[.int .i64 0, .int .i64 0, .int .i64 0, .int .i64 0, .int .u64 0, .string ⟨#[]⟩] 43)) (.pointer (some ⟨w.heap.size, 0, none⟩)) (by simp only [execOp]; go_simp) hK
              · intro w
                exact heap_alloc_new _ _
              · intro i hi os hos
                simp only [List.mem_cons, List.not_mem_nil, or_false] at hi
                subst hi
                all_goals
                  simp only [List.getElem?_toArray, List.getElem?_cons_zero, List.getElem?_cons_succ, Option.some.injEq] at hos
                  subst hos
                  exact ⟨rfl, by kernel_rfl⟩
              · intro i hi os hos b S a w hb hb1 hb2 hk hSi hblk
                simp only [List.mem_cons, List.not_mem_nil, or_false] at hi
                subst hi
                · simp only [List.getElem?_toArray, List.getElem?_cons_zero, List.getElem?_cons_succ, Option.some.injEq] at hos
                  subst hos
                  have e6 : a.eval (.tmp 6) = .pointer (some ⟨b, 0, none⟩) := hk 6 (by decide)
                  have e47 : a.eval (.tmp 47) = .agg #[.int .i64 kd, .int .i64 fr, .int .i64 to1, .int .i64 n1, .int .u64 u1, .string ⟨tx.toArray⟩] := hk 47 (by decide)
                  unfold blkK at hblk
                  rw [hSi, if_neg (by decide)] at hblk
                  refine ⟨rfl, opwp_storeT rfl rfl e6 e47 hblk ?_⟩
                  intro w' q1 q2 q3 q4
                  exact ⟨rfl, q2, q3, q4 _ hb1 hb, by unfold blkK; rw [if_pos (if_pos rfl)]; exact q1⟩
              · intro jq oq hjq hne1 hne2
                match jq, hjq, hne1, hne2 with
                | 0, hjq, _, _ =>
                  simp only [List.getElem?_toArray, List.getElem?_cons_zero, List.getElem?_cons_succ, Option.some.injEq] at hjq
                  subst hjq
                  intro B a w hB hb hk
                  obtain ⟨b0, hb0⟩ := hB
                  have e0 : a.eval (.tmp 0) = .pointer (some ⟨R, 0, none⟩) := hk b0 hb0 0 (by decide)
                  refine ⟨rfl, opwp_move rfl e0 ?_⟩
                  exact ⟨Below.refl _ _, _, rfl, fun d hd b _ _ => by cases hd; rfl⟩
                | 1, hjq, _, _ =>
                  simp only [List.getElem?_toArray, List.getElem?_cons_zero, List.getElem?_cons_succ, Option.some.injEq] at hjq
                  subst hjq
                  intro B a w hB hb hk
                  obtain ⟨b0, hb0⟩ := hB
                  have e37 : a.eval (.tmp 37) = .pointer (some ⟨R, 0, none⟩) := hk b0 hb0 37 (by decide)
                  refine ⟨rfl, opwp_nc rfl e37 ?_⟩
                  exact ⟨Below.refl _ _, _, rfl, fun d hd b _ _ => by cases hd; rfl⟩
                | 2, hjq, _, _ =>
                  simp only [List.getElem?_toArray, List.getElem?_cons_zero, List.getElem?_cons_succ, Option.some.injEq] at hjq
                  subst hjq
                  intro B a w hB hb hk
                  obtain ⟨b0, hb0⟩ := hB
                  have e38 : a.eval (.tmp 38) = .pointer (some ⟨R, 0, none⟩) := hk b0 hb0 38 (by decide)
                  refine ⟨rfl, opwp_faR0 rfl e38 ?_⟩
                  exact ⟨Below.refl _ _, _, rfl, fun d hd b _ _ => by cases hd; rfl⟩
                | 3, hjq, _, _ =>
                  simp only [List.getElem?_toArray, List.getElem?_cons_zero, List.getElem?_cons_succ, Option.some.injEq] at hjq
                  subst hjq
                  intro B a w hB hb hk
                  obtain ⟨b0, hb0⟩ := hB
                  have e39 : a.eval (.tmp 39) = .pointer (some ⟨R, 0, none⟩) := hk b0 hb0 39 (by decide)
                  refine ⟨rfl, opwp_ldS rfl e39 ((hb.cell (p := ⟨R, 0, none⟩) hR).trans c0) ?_⟩
                  exact ⟨Below.refl _ _, _, rfl, fun d hd b _ _ => by cases hd; rfl⟩
                | 4, hjq, _, _ =>
                  simp only [List.getElem?_toArray, List.getElem?_cons_zero, List.getElem?_cons_succ, Option.some.injEq] at hjq
                  subst hjq
                  intro B a w hB hb hk
                  obtain ⟨b0, hb0⟩ := hB
                  have e0 : a.eval (.tmp 0) = .pointer (some ⟨R, 0, none⟩) := hk b0 hb0 0 (by decide)
                  refine ⟨rfl, opwp_move rfl e0 ?_⟩
                  exact ⟨Below.refl _ _, _, rfl, fun d hd b _ _ => by cases hd; rfl⟩
                | 5, hjq, _, _ =>
                  simp only [List.getElem?_toArray, List.getElem?_cons_zero, List.getElem?_cons_succ, Option.some.injEq] at hjq
                  subst hjq
                  intro B a w hB hb hk
                  obtain ⟨b0, hb0⟩ := hB
                  have e41 : a.eval (.tmp 41) = .pointer (some ⟨R, 0, none⟩) := hk b0 hb0 41 (by decide)
                  refine ⟨rfl, opwp_nc rfl e41 ?_⟩
                  exact ⟨Below.refl _ _, _, rfl, fun d hd b _ _ => by cases hd; rfl⟩
                | 6, hjq, _, _ =>
                  simp only [List.getElem?_toArray, List.getElem?_cons_zero, List.getElem?_cons_succ, Option.some.injEq] at hjq
                  subst hjq
                  intro B a w hB hb hk
                  obtain ⟨b0, hb0⟩ := hB
                  have e42 : a.eval (.tmp 42) = .pointer (some ⟨R, 0, none⟩) := hk b0 hb0 42 (by decide)
                  refine ⟨rfl, opwp_faR1 rfl e42 ?_⟩
                  exact ⟨Below.refl _ _, _, rfl, fun d hd b _ _ => by cases hd; rfl⟩
                | 7, hjq, _, _ =>
                  simp only [List.getElem?_toArray, List.getElem?_cons_zero, List.getElem?_cons_succ, Option.some.injEq] at hjq
                  subst hjq
                  intro B a w hB hb hk
                  obtain ⟨b0, hb0⟩ := hB
                  have e43 : a.eval (.tmp 43) = .pointer (some ⟨R, 1, none⟩) := hk b0 hb0 43 (by decide)
                  refine ⟨rfl, opwp_faK2 rfl e43 ?_⟩
                  exact ⟨Below.refl _ _, _, rfl, fun d hd b _ _ => by cases hd; rfl⟩
                | 8, hjq, _, _ =>
                  simp only [List.getElem?_toArray, List.getElem?_cons_zero, List.getElem?_cons_succ, Option.some.injEq] at hjq
                  subst hjq
                  intro B a w hB hb hk
                  obtain ⟨b0, hb0⟩ := hB
                  have e44 : a.eval (.tmp 44) = .pointer (some ⟨R, 3, none⟩) := hk b0 hb0 44 (by decide)
                  refine ⟨rfl, opwp_ldI rfl e44 ((hb.cell (p := ⟨R, 3, none⟩) hR).trans c3) ?_⟩
                  exact ⟨Below.refl _ _, _, rfl, fun d hd b _ _ => by cases hd; rfl⟩
                | 9, hjq, _, _ =>
                  simp only [List.getElem?_toArray, List.getElem?_cons_zero, List.getElem?_cons_succ, Option.some.injEq] at hjq
                  subst hjq
                  intro B a w hB hb hk
                  obtain ⟨b0, hb0⟩ := hB
                  have e40 : a.eval (.tmp 40) = .string ⟨s.toArray⟩ := hk b0 hb0 40 (by decide)
                  have e45 : a.eval (.tmp 45) = .int .i64 t2.to_ := hk b0 hb0 45 (by decide)
                  refine ⟨rfl, opwp_call (fun v w' => v = .tuple #[.agg #[.int .i64 kd, .int .i64 fr, .int .i64 to1, .int .i64 n1, .int .u64 u1, .string ⟨tx.toArray⟩], .int .i64 er] ∧ Below w.heap.size w w') (exec_call [a.eval (.tmp 40), a.eval (.tmp 45)] Tryz.func43 (by kernel_rfl) rfl rfl rfl) ?_ ?_⟩
                  · rw [e40, e45]
                    refine (HL.out w hb).mono ?_
                    rintro e w' ⟨rfl, h⟩
                    exact ⟨_, rfl, rfl, h⟩
                  · rintro v w' ⟨rfl, h⟩
                    exact ⟨h, _, rfl, fun d hd b _ _ => by cases hd; rfl⟩
                | 10, hjq, _, _ =>
                  simp only [List.getElem?_toArray, List.getElem?_cons_zero, List.getElem?_cons_succ, Option.some.injEq] at hjq
                  subst hjq
                  intro B a w hB hb hk
                  obtain ⟨b0, hb0⟩ := hB
                  have e46 : a.eval (.tmp 46) = .tuple #[.agg #[.int .i64 kd, .int .i64 fr, .int .i64 to1, .int .i64 n1, .int .u64 u1, .string ⟨tx.toArray⟩], .int .i64 er] := hk b0 hb0 46 (by decide)
                  refine ⟨rfl, opwp_move rfl e46 ?_⟩
                  exact ⟨Below.refl _ _, _, rfl, fun d hd b _ _ => by cases hd; rfl⟩
                | 11, hjq, _, _ =>
                  simp only [List.getElem?_toArray, List.getElem?_cons_zero, List.getElem?_cons_succ, Option.some.injEq] at hjq
                  subst hjq
                  intro B a w hB hb hk
                  obtain ⟨b0, hb0⟩ := hB
                  have e36 : a.eval (.tmp 36) = .tuple #[.agg #[.int .i64 kd, .int .i64 fr, .int .i64 to1, .int .i64 n1, .int .u64 u1, .string ⟨tx.toArray⟩], .int .i64 er] := hk b0 hb0 36 (by decide)
                  refine ⟨rfl, opwp_ext (.agg #[.int .i64 kd, .int .i64 fr, .int .i64 to1, .int .i64 n1, .int .u64 u1, .string ⟨tx.toArray⟩]) rfl e36 rfl ?_⟩
                  exact ⟨Below.refl _ _, _, rfl, fun d hd b _ _ => by cases hd; rfl⟩
                | 12, hjq, _, _ =>
                  simp only [List.getElem?_toArray, List.getElem?_cons_zero, List.getElem?_cons_succ, Option.some.injEq] at hjq
                  subst hjq
                  intro B a w hB hb hk
                  obtain ⟨b0, hb0⟩ := hB
                  have e36 : a.eval (.tmp 36) = .tuple #[.agg #[.int .i64 kd, .int .i64 fr, .int .i64 to1, .int .i64 n1, .int .u64 u1, .string ⟨tx.toArray⟩], .int .i64 er] := hk b0 hb0 36 (by decide)
                  refine ⟨rfl, opwp_ext (.int .i64 er) rfl e36 rfl ?_⟩
                  exact ⟨Below.refl _ _, _, rfl, fun d hd b _ _ => by cases hd; rfl⟩
                | 13, hjq, h, _ => exact absurd rfl h
                | 14, hjq, _, h => exact absurd (by decide) h
                | 15, hjq, _, _ =>
                  simp only [List.getElem?_toArray, List.getElem?_cons_zero, List.getElem?_cons_succ, Option.some.injEq] at hjq
                  subst hjq
                  intro B a w hB hb hk
                  obtain ⟨b0, hb0⟩ := hB
                  have e48 : a.eval (.tmp 48) = .int .i64 er := hk b0 hb0 48 (by decide)
                  refine ⟨rfl, opwp_assign rfl e48 ?_⟩
                  exact ⟨Below.refl _ _, _, rfl, fun d hd b _ _ => by cases hd; rfl⟩
                | kq + 16, hjq, _, _ => cases hjq
              intro P6 f w4 hb hp1 hp2 hp hblk
              have e6 : f 6 = .pointer (some ⟨P6, 0, none⟩) := hp 6 (by decide)
              have e7 : f 7 = .int .i64 er := hp 7 (by decide)
              simp only [puts, List.foldl, Act.put, List.setIfInBounds_toArray, List.set_cons_zero, List.set_cons_succ]
              simp only [e6, e7]
              generalize f 37 = v37
              generalize f 38 = v38
              generalize f 39 = v39
              generalize f 40 = v40
              generalize f 41 = v41
              generalize f 42 = v42
              generalize f 43 = v43
              generalize f 44 = v44
              generalize f 45 = v45
              generalize f 46 = v46
              generalize f 36 = v36
              generalize f 47 = v47
              generalize f 48 = v48
              have hblk2 : w4.heap[P6]? = some (.cells #[.int .i64 kd, .int .i64 fr, .int .i64 to1, .int .i64 n1, .int .u64 u1, .string ⟨tx.toArray⟩] 43 (0, 0)) := hblk
              have hE4 := HE.out.quiet HJ.out hb
              have hG4 := hE4.glb HGL.out HGR.out hRB
              have y0 : w4.cell? ⟨P6, 0, none⟩ = some (.int .i64 kd) := cell_of_row _ _ _ _ _ _ hblk2
              have y1 : w4.cell? ⟨P6, 1, none⟩ = some (.int .i64 fr) := cell_of_row _ _ _ _ _ _ hblk2
              have HE4 := Lib.hid hE4
              have HPX := Lib.hid (HPA2.out w4 hE4.p hG4)
              clear hp e6 e7 hblk hblk2 hb hE4 hG4 HPA2 HL HE c0 c3 hp1 hp2 hGr
              have hstop : (er = 0 ∧ kd = 4) ∨ ¬ (er = 0 ∧ kd = 4) := Decidable.em _
              rcases hstop with ⟨he, hk⟩ | hno
              · subst he hk
                have e := HR1.out
                rw [if_pos (show (0 : Int) = 0 ∧ (4 : Int) = lastP false from ⟨rfl, rfl⟩)] at e
                dsimp only at e
                have HRE := Lib.hid e
                clear e HR1 HPX
                go_wp2_with fail
                have hfin : EachPost B R s J w res (.panicked (panV (fr, 100))) w4 := by rw [← HRE.out]; exact ⟨HE4.out.f, rfl⟩
                exact ⟨rfl, hfin⟩
              · have e := HR1.out
                rw [if_neg (show ¬ (er = 0 ∧ kd = lastP false) from hno)] at e
                have HRE := Lib.hid e
                clear e HR1
                by_cases he : er = 0
                case' pos =>
                  have ez : (er == 0) = true := by simp [he]
                  have ek : (kd == 4) = false := by simp; intro hk; exact hno ⟨he, hk⟩
                case' neg =>
                  have ez : (er == 0) = false := by simp [he]
                all_goals
                  clear hno he
                  go_wp2_with fail
                  refine HPX.out.mono ?_
                  intro o w5 hh
                  rw [if_pos h5] at hh
                  obtain ⟨ht, hn⟩ := hh
                  cases hq : nextP s t2 with
                  | error x =>
                    rw [hq] at hn
                    obtain rfl := hn
                    have e := HRE.out
                    rw [hq] at e
                    have hfin : EachPost B R s J w res (.panicked (panV x)) w5 := by rw [← e]; exact ⟨HE4.out.f.trans (ht.tch HE4.out.b), rfl⟩
                    exact ⟨rfl, hfin⟩
                  | ok t3 =>
                    rw [hq] at hn
                    obtain ⟨rfl, hp3⟩ := hn
                    have e := HRE.out
                    rw [hq] at e
                    dsimp only at e
                    have HX := Lib.hid (HE4.out.next HJ.out ht hp3)
                    have HRE2 := Lib.hid e
                    obtain ⟨-, -, -, -, -, -, -, z7, -⟩ := hp3.cells
                    clear hq hp3 ht e HRE HPX y0 y1
                    go_wp2_with fail
                    go_roundw
                    case rel => exact ⟨g, t3, m, ks1, acc ++ [T], by omega, by omega, hm2, by omega, HX.out, HRE2⟩
                    case measure =>
                      rw [z7, HW7.out]
                      simp only [Option.getD_some, intOf]
                      omega
            · have e5 : (t2.kind == 5) = false := by simp [h5]
              rw [if_pos h5] at e
              have HR1 := Lib.hid e
              have HNE := Lib.hid (HY.out t2 m R false 100 w2 hE.p)
              clear e hE hGr c0 c2 c3 c4 c5 c6 c7 cf h1 h5
              go_wp2_with fail
              refine HNE.out.mono ?_
              rintro o w3 ⟨rfl, rfl⟩
              have hfin : EachPost B R s J w res (.panicked (panV (t2.from_, 100))) w2 := by rw [← HR1.out]; exact ⟨HE.out.f, rfl⟩
              exact ⟨rfl, hfin⟩
def pEm (R : Nat) (s : List UInt8) (tk : Tok) (kd fr to1 n1 : Int) (u1 : Int) (tx : List UInt8) (er : Int) : Posts := fun b t v w => match t with
  | 0 => v = .pointer (some ⟨R, 0, none⟩)
  | 37 => v = .pointer (some ⟨R, 0, none⟩)
  | 38 => v = .pointer (some ⟨R, 0, none⟩)
  | 39 => v = .pointer (some ⟨R, 0, none⟩)
  | 40 => v = .string ⟨s.toArray⟩
  | 41 => v = .pointer (some ⟨R, 0, none⟩)
  | 42 => v = .pointer (some ⟨R, 0, none⟩)
  | 43 => v = .pointer (some ⟨R, 1, none⟩)
  | 44 => v = .pointer (some ⟨R, 3, none⟩)
  | 45 => v = .int .i64 tk.to_
  | 46 => v = .tuple #[.agg #[.int .i64 kd, .int .i64 fr, .int .i64 to1, .int .i64 n1, .int .u64 u1, .string ⟨tx.toArray⟩], .int .i64 er]
  | 36 => v = .tuple #[.agg #[.int .i64 kd, .int .i64 fr, .int .i64 to1, .int .i64 n1, .int .u64 u1, .string ⟨tx.toArray⟩], .int .i64 er]
  | 47 => v = .agg #[.int .i64 kd, .int .i64 fr, .int .i64 to1, .int .i64 n1, .int .u64 u1, .string ⟨tx.toArray⟩]
  | 48 => v = .int .i64 er
  | 6 => v = .pointer (some ⟨b, 0, none⟩)
  | 7 => v = .int .i64 er
  | _ => True
theorem pEm_st (R : Nat) (s : List UInt8) (tk : Tok) (kd fr to1 n1 : Int) (u1 : Int) (tx : List UInt8) (er : Int) : ∀ (b : Nat) (t : Tmp) (v : Value) (w w' : World), ExtB b w w' → pEm R s tk kd fr to1 n1 u1 tx er b t v w → pEm R s tk kd fr to1 n1 u1 tx er b t v w' := by
  intro b t v w w' hE
  unfold pEm
  split
  · exact id
  · exact id
  · exact id
  · exact id
  · exact id
  · exact id
  · exact id
  · exact id
  · exact id
  · exact id
  · exact id
  · exact id
  · exact id
  · exact id
  · exact id
  · exact id
  · exact id
set_option maxHeartbeats 16000000 in
set_option maxRecDepth 100000 in
theorem each_m (s : List UInt8) (R B G : Nat) (deep : Int) (C0 C1 C2 C3 : Nat) (J : List (List UInt8) → List DT → World → Prop) (hJ : ∀ ks acc W W', Touch [R] W W' → J ks acc W → J ks acc W') (hl : s.length ≤ 1073741824) (hRB : R < B) (hGR : Gb R)
    (w : World) (hGl : Glb w)
    (HO : ∀ (g : Nat) (W : World) (t : Tok) (many : Int) (ks : List (List UInt8)) (acc : List DT), g < G → EaW B R s J w t many ks acc W → 0 ≤ many → many ≤ 4096 → 2 * (4096 - many) + 1 ≤ g → Calls Tryz.prog 91 #[.pointer (some ⟨C0, 0, none⟩), .pointer (some ⟨C1, 0, none⟩), .pointer (some ⟨C2, 0, none⟩), .pointer (some ⟨C3, 0, none⟩)] W (OneP B R s J acc W (oneR s g true deep t many ks)))
    (t : Tok) (many : Int) (g : Nat) (ks : List (List UInt8)) (acc : List DT) (hP : PRow w R s t many) (hJ0 : J ks acc w) (hBw : B ≤ w.heap.size) (hn0 : (acc.length : Int) ≤ many) (hg : g ≤ G) (hm0 : 0 ≤ many) (hm : many ≤ 4096) (hf : 2 * (4096 - many) + 2 ≤ g) :
    Calls Tryz.prog 89 #[.pointer (some ⟨R, 0, none⟩), .int .i64 2, .func (.func 91) #[] #[.pointer (some ⟨C0, 0, none⟩), .pointer (some ⟨C1, 0, none⟩), .pointer (some ⟨C2, 0, none⟩), .pointer (some ⟨C3, 0, none⟩)]] w (EachPost B R s J w (match nextP s t with | .error x => .error x | .ok t1 => eachP s g true deep t1 many ks acc)) := by
  have hE0 : EaW B R s J w t many ks acc w := ⟨hP, hJ0, Tch.refl _ _ _, hBw, hn0⟩
  have HN := Lib.hid fun (W : World) (tt : Tok) (m : Int) (h : PRow W R s tt m) (hg : Glb W) => nextr_any s tt m R W h hl hg hGR
  have HY := Lib.hid (need_any s)
  have HPA := Lib.hid fun (W : World) (tt : Tok) (m : Int) (h : PRow W R s tt m) (hg : Glb W) => past_any s tt m R 5 W h hl hg hGR
  have HLX := Lib.hid fun (W : World) (a : Int) (hg : Glb W) (hb : Gb W.heap.size) => next_any s a W hl hg hb
  have HO := Lib.hid HO
  have HJ := Lib.hid hJ
  have HGL := Lib.hid hGl
  have HGR := Lib.hid hGR
  have HE0 := Lib.hid hE0
  clear hJ0 hGl hGR hJ
  generalize hres : (match nextP s t with | .error x => .error x | .ok t1 => eachP s g true deep t1 many ks acc : ER) = res
  have HR := Lib.hid hres
  clear hres
  go_enter Tryz.func89, Tryz.ntmps89
  go_wp2_with fail
  refine (HN.out w t many HE0.out.p HGL.out).mono ?_
  rintro o w1 ⟨ht, hn⟩
  cases hq : nextP s t with
  | error x =>
    rw [hq] at hn
    obtain rfl := hn
    have e := HR.out
    rw [hq] at e
    rw [← e]
    exact ⟨rfl, ht.tch hBw, rfl⟩
  | ok t1 =>
    rw [hq] at hn
    obtain ⟨rfl, hp1⟩ := hn
    have hR1 := HR.out
    rw [hq] at hR1
    dsimp only at hR1
    have hE1 := HE0.out.next HJ.out ht hp1
    have HE1 := Lib.hid hE1
    have HR1 := Lib.hid hR1
    clear hR1 HR hq ht hp1 hE1 hE0 hP HE0
    go_wp2_with fail
    go_loopw [7] (fun _ wr => ∃ (g : Nat) (t : Tok) (many : Int) (ks : List (List UInt8)) (acc : List DT), g ≤ G ∧ 0 ≤ many ∧ many ≤ 4096 ∧ 2 * (4096 - many) + 2 ≤ g ∧ EaW B R s J w t many ks acc wr ∧ Hid (eachP s g true deep t many ks acc = res)) (fun _ wr => 4096 - (intOf ((wr.cell? ⟨R, 7, none⟩).getD undef)).toNat)
    case atStart => exact ⟨g, t1, many, ks, acc, hg, hm0, hm, hf, HE1.out, HR1⟩
    case round =>
      rename_i wr hK0
      clear HE1 HR1 hf hm hm0 hg
      obtain ⟨g1, t, many, ks, acc, hg, hm0, hm, hf, hE, hR⟩ := hrel
      obtain ⟨g, rfl⟩ : ∃ g, g1 = g + 1 := ⟨g1 - 1, by omega⟩
      have hR1 := hR.out
      rw [each_succ] at hR1
      have hGr := hE.glb HGL.out HGR.out hRB
      obtain ⟨c0, c1, c2, c3, c4, c5, c6, c7, cf⟩ := hE.p.cells
      have HW7 := Lib.hid c7
      have HE := Lib.hid hE
      by_cases h1 : t.kind = 2
      · rw [if_pos (show t.kind = lastP true from h1)] at hR1
        rw [h1] at c1
        have HR1 := Lib.hid hR1
        have HNX := Lib.hid (HN.out wr t many hE.p hGr)
        clear hR hR1 hE hGr c0 c2 c3 c4 c5 c6 c7 cf h1
        go_wp2_with fail
        refine HNX.out.mono ?_
        rintro o w2 ⟨ht, hn⟩
        cases hq : nextP s t with
        | error x =>
          rw [hq] at hn
          obtain rfl := hn
          have e := HR1.out
          unfold shutP at e
          rw [hq] at e
          have hfin : EachPost B R s J w res (.panicked (panV x)) w2 := by rw [← e]; exact ⟨HE.out.f.trans (ht.tch HE.out.b), rfl⟩
          exact ⟨rfl, hfin⟩
        | ok t2 =>
          rw [hq] at hn
          obtain ⟨rfl, hp2⟩ := hn
          have e := HR1.out
          unfold shutP at e
          rw [hq] at e
          have HX := Lib.hid (HE.out.next HJ.out ht hp2)
          have HRE := Lib.hid e
          clear hq hp2 ht e HR1 HNX
          go_wp2_with fail
          go_end0
          rw [← HRE.out]
          exact ⟨HX.out.f, rfl, HX.out.p, HX.out.j⟩
      · rw [if_neg (show ¬ t.kind = lastP true from h1)] at hR1
        have e1 : (t.kind != 2) = true := by simp [h1]
        have HR1 := Lib.hid hR1
        have HON := Lib.hid (HO.out g wr t many ks acc (by omega) hE hm0 hm (by omega))
        clear hR hR1 hE hGr c0 c2 c3 c4 c5 c6 c7 cf h1
        go_wp2_with fail
        refine HON.out.mono ?_
        rintro o w2 ⟨hf2, hn⟩
        cases hq : oneR s g true deep t many ks with
        | error x =>
          rw [hq] at hn
          obtain rfl := hn
          have e := HR1.out
          rw [hq] at e
          have hfin : EachPost B R s J w res (.panicked (panV x)) w2 := by rw [← e]; exact ⟨HE.out.f.trans hf2, rfl⟩
          exact ⟨rfl, hfin⟩
        | ok p =>
          obtain ⟨ks1, T, t2, m⟩ := p
          rw [hq] at hn
          obtain ⟨rfl, hp2, hj2⟩ := hn
          have e := HR1.out
          rw [hq] at e
          dsimp only at e
          obtain ⟨hm1, hm2⟩ := one_more hq
          have hE : EaW B R s J w t2 m ks1 (acc ++ [T]) w2 := ⟨hp2, hj2, HE.out.f.trans hf2, Nat.le_trans HE.out.b hf2.size, by have := HE.out.n; rw [List.length_append, List.length_singleton]; omega⟩
          have hGr := hE.glb HGL.out HGR.out hRB
          obtain ⟨c0, c1, c2, c3, c4, c5, c6, c7, cf⟩ := hE.p.cells
          clear HR1 HON hq hp2 hj2 hf2 e1 HE
          have HE := Lib.hid hE
          by_cases h1 : t2.kind = 2
          · rw [if_pos (show t2.kind = lastP true from h1)] at e
            rw [h1] at c1
            have HR1 := Lib.hid e
            have HNX := Lib.hid (HN.out w2 t2 m hE.p hGr)
            clear e hE hGr c0 c2 c3 c4 c5 c6 c7 cf h1
            go_wp2_with fail
            refine HNX.out.mono ?_
            rintro o w3 ⟨ht, hn⟩
            cases hq : nextP s t2 with
            | error x =>
              rw [hq] at hn
              obtain rfl := hn
              have e := HR1.out
              unfold shutP at e
              rw [hq] at e
              have hfin : EachPost B R s J w res (.panicked (panV x)) w3 := by rw [← e]; exact ⟨HE.out.f.trans (ht.tch HE.out.b), rfl⟩
              exact ⟨rfl, hfin⟩
            | ok t3 =>
              rw [hq] at hn
              obtain ⟨rfl, hp3⟩ := hn
              have e := HR1.out
              unfold shutP at e
              rw [hq] at e
              have HX := Lib.hid (HE.out.next HJ.out ht hp3)
              have HRE := Lib.hid e
              clear hq hp3 ht e HR1 HNX
              go_wp2_with fail
              go_end0
              rw [← HRE.out]
              exact ⟨HX.out.f, rfl, HX.out.p, HX.out.j⟩
          · rw [if_neg (show ¬ t2.kind = lastP true from h1)] at e
            have e1 : (t2.kind == 2) = false := by simp [h1]
            unfold moreR at e
            by_cases h5 : t2.kind = 5
            · have e5 : (t2.kind == 5) = true := by simp [h5]
              rw [if_neg (show ¬ t2.kind ≠ 5 by simp [h5])] at e
              have HR1 := Lib.hid e
              have HNE := Lib.hid (HY.out t2 m R true 100 w2 hE.p)
              clear e hE c0 c2 c3 c4 c5 c6 c7 cf h1
              go_wp2_with fail
              refine HNE.out.mono ?_
              rintro o w3 ⟨rfl, rfl⟩
              clear HNE e1 e5 c1
              obtain ⟨c0, -, -, c3, -⟩ := HE.out.p.cells
              unfold strV at c0
              have hR := HE.out.p.lt
              have HL := Lib.hid fun (W : World) (hW : Below w2.heap.size w2 W) => HLX.out W t2.to_ (hGr.below hW (HGR.out.mono (Nat.le_of_lt hR))) (HGR.out.mono (Nat.le_trans (Nat.le_of_lt hR) hW.size))
              have HPA2 := Lib.hid fun (W : World) (h : PRow W R s t2 m) (hg : Glb W) => HPA.out W t2 m h hg
              have HNP := Lib.hid (show nextP s t2 = if (nextM s t2.to_).2 ≠ 0 then .error ((nextM s t2.to_).1.from_, (nextM s t2.to_).2) else .ok (nextM s t2.to_).1 from rfl)
              generalize hqq : nextM s t2.to_ = q at *
              obtain ⟨⟨kd, fr, to1, n1, u1, tx⟩, er⟩ := q
              unfold trV tokV strV at HL
              dsimp only at HL HR1 HNP
              go_upto_region 6 with fail
              refine wp_region_eachMP (n := 63) (ia := 13) (ob := .cells #[.int .i64 0, .int .i64 0, .int .i64 0, .int .i64 0, .int .u64 0, .string ⟨#[]⟩] 43) [14] [37, 38, 39, 40, 41, 42, 43, 44, 45, 46, 36, 47, 48, 6, 7] (pEm R s t2 kd fr to1 n1 u1 tx er) (blkK kd fr to1 n1 u1 tx) (by kernel_rfl) (by kernel_rfl) rfl (by kernel_rfl) (pEm_st R s t2 kd fr to1 n1 u1 tx er) (blkK_st kd fr to1 n1 u1 tx) (blkK_sc kd fr to1 n1 u1 tx) ?_ rfl rfl rfl (V := fun b => .pointer (some ⟨b, 0, none⟩)) ?_ (fun _ _ => rfl) ?_ (by decide) (by decide) ?_ ?_ ?_ ?_
              · intro b hb t ht
                unfold pEm
                split
                · rfl
                · exact absurd rfl (ht 0 _ rfl)
                · exact absurd rfl (ht 1 _ rfl)
                · exact absurd rfl (ht 2 _ rfl)
                · exact absurd rfl (ht 3 _ rfl)
                · exact absurd rfl (ht 4 _ rfl)
                · exact absurd rfl (ht 5 _ rfl)
                · exact absurd rfl (ht 6 _ rfl)
                · exact absurd rfl (ht 7 _ rfl)
                · exact absurd rfl (ht 8 _ rfl)
                · exact absurd rfl (ht 9 _ rfl)
                · exact absurd rfl (ht 10 _ rfl)
                · exact absurd rfl (ht 11 _ rfl)
                · exact absurd rfl (ht 12 _ rfl)
                · exact absurd rfl (ht 13 _ rfl)
                · exact absurd rfl (ht 15 _ rfl)
                · trivial
              · intro a w K hK
                exact opwp_val (w' := w.alloc (.cells #[.int .i64 0, .int .i64 0, .int .i64 0, .int .i64 0, .int .u64 0, .string ⟨#[]⟩] 43)) (.pointer (some ⟨w.heap.size, 0, none⟩)) (by simp only [execOp]; go_simp) hK
              · intro w
                exact heap_alloc_new _ _
              · intro i hi os hos
                simp only [List.mem_cons, List.not_mem_nil, or_false] at hi
                subst hi
                all_goals
                  simp only [List.getElem?_toArray, List.getElem?_cons_zero, List.getElem?_cons_succ, Option.some.injEq] at hos
                  subst hos
                  exact ⟨rfl, by kernel_rfl⟩
              · intro i hi os hos b S a w hb hb1 hb2 hk hSi hblk
                simp only [List.mem_cons, List.not_mem_nil, or_false] at hi
                subst hi
                · simp only [List.getElem?_toArray, List.getElem?_cons_zero, List.getElem?_cons_succ, Option.some.injEq] at hos
                  subst hos
                  have e6 : a.eval (.tmp 6) = .pointer (some ⟨b, 0, none⟩) := hk 6 (by decide)
                  have e47 : a.eval (.tmp 47) = .agg #[.int .i64 kd, .int .i64 fr, .int .i64 to1, .int .i64 n1, .int .u64 u1, .string ⟨tx.toArray⟩] := hk 47 (by decide)
                  unfold blkK at hblk
                  rw [hSi, if_neg (by decide)] at hblk
                  refine ⟨rfl, opwp_storeT rfl rfl e6 e47 hblk ?_⟩
                  intro w' q1 q2 q3 q4
                  exact ⟨rfl, q2, q3, q4 _ hb1 hb, by unfold blkK; rw [if_pos (if_pos rfl)]; exact q1⟩
              · intro jq oq hjq hne1 hne2
                match jq, hjq, hne1, hne2 with
                | 0, hjq, _, _ =>
                  simp only [List.getElem?_toArray, List.getElem?_cons_zero, List.getElem?_cons_succ, Option.some.injEq] at hjq
                  subst hjq
                  intro B a w hB hb hk
                  obtain ⟨b0, hb0⟩ := hB
                  have e0 : a.eval (.tmp 0) = .pointer (some ⟨R, 0, none⟩) := hk b0 hb0 0 (by decide)
                  refine ⟨rfl, opwp_move rfl e0 ?_⟩
                  exact ⟨Below.refl _ _, _, rfl, fun d hd b _ _ => by cases hd; rfl⟩
                | 1, hjq, _, _ =>
                  simp only [List.getElem?_toArray, List.getElem?_cons_zero, List.getElem?_cons_succ, Option.some.injEq] at hjq
                  subst hjq
                  intro B a w hB hb hk
                  obtain ⟨b0, hb0⟩ := hB
                  have e37 : a.eval (.tmp 37) = .pointer (some ⟨R, 0, none⟩) := hk b0 hb0 37 (by decide)
                  refine ⟨rfl, opwp_nc rfl e37 ?_⟩
                  exact ⟨Below.refl _ _, _, rfl, fun d hd b _ _ => by cases hd; rfl⟩
                | 2, hjq, _, _ =>
                  simp only [List.getElem?_toArray, List.getElem?_cons_zero, List.getElem?_cons_succ, Option.some.injEq] at hjq
                  subst hjq
                  intro B a w hB hb hk
                  obtain ⟨b0, hb0⟩ := hB
                  have e38 : a.eval (.tmp 38) = .pointer (some ⟨R, 0, none⟩) := hk b0 hb0 38 (by decide)
                  refine ⟨rfl, opwp_faR0 rfl e38 ?_⟩
                  exact ⟨Below.refl _ _, _, rfl, fun d hd b _ _ => by cases hd; rfl⟩
                | 3, hjq, _, _ =>
                  simp only [List.getElem?_toArray, List.getElem?_cons_zero, List.getElem?_cons_succ, Option.some.injEq] at hjq
                  subst hjq
                  intro B a w hB hb hk
                  obtain ⟨b0, hb0⟩ := hB
                  have e39 : a.eval (.tmp 39) = .pointer (some ⟨R, 0, none⟩) := hk b0 hb0 39 (by decide)
                  refine ⟨rfl, opwp_ldS rfl e39 ((hb.cell (p := ⟨R, 0, none⟩) hR).trans c0) ?_⟩
                  exact ⟨Below.refl _ _, _, rfl, fun d hd b _ _ => by cases hd; rfl⟩
                | 4, hjq, _, _ =>
                  simp only [List.getElem?_toArray, List.getElem?_cons_zero, List.getElem?_cons_succ, Option.some.injEq] at hjq
                  subst hjq
                  intro B a w hB hb hk
                  obtain ⟨b0, hb0⟩ := hB
                  have e0 : a.eval (.tmp 0) = .pointer (some ⟨R, 0, none⟩) := hk b0 hb0 0 (by decide)
                  refine ⟨rfl, opwp_move rfl e0 ?_⟩
                  exact ⟨Below.refl _ _, _, rfl, fun d hd b _ _ => by cases hd; rfl⟩
                | 5, hjq, _, _ =>
                  simp only [List.getElem?_toArray, List.getElem?_cons_zero, List.getElem?_cons_succ, Option.some.injEq] at hjq
                  subst hjq
                  intro B a w hB hb hk
                  obtain ⟨b0, hb0⟩ := hB
                  have e41 : a.eval (.tmp 41) = .pointer (some ⟨R, 0, none⟩) := hk b0 hb0 41 (by decide)
                  refine ⟨rfl, opwp_nc rfl e41 ?_⟩
                  exact ⟨Below.refl _ _, _, rfl, fun d hd b _ _ => by cases hd; rfl⟩
                | 6, hjq, _, _ =>
                  simp only [List.getElem?_toArray, List.getElem?_cons_zero, List.getElem?_cons_succ, Option.some.injEq] at hjq
                  subst hjq
                  intro B a w hB hb hk
                  obtain ⟨b0, hb0⟩ := hB
                  have e42 : a.eval (.tmp 42) = .pointer (some ⟨R, 0, none⟩) := hk b0 hb0 42 (by decide)
                  refine ⟨rfl, opwp_faR1 rfl e42 ?_⟩
                  exact ⟨Below.refl _ _, _, rfl, fun d hd b _ _ => by cases hd; rfl⟩
                | 7, hjq, _, _ =>
                  simp only [List.getElem?_toArray, List.getElem?_cons_zero, List.getElem?_cons_succ, Option.some.injEq] at hjq
                  subst hjq
                  intro B a w hB hb hk
                  obtain ⟨b0, hb0⟩ := hB
                  have e43 : a.eval (.tmp 43) = .pointer (some ⟨R, 1, none⟩) := hk b0 hb0 43 (by decide)
                  refine ⟨rfl, opwp_faK2 rfl e43 ?_⟩
                  exact ⟨Below.refl _ _, _, rfl, fun d hd b _ _ => by cases hd; rfl⟩
                | 8, hjq, _, _ =>
                  simp only [List.getElem?_toArray, List.getElem?_cons_zero, List.getElem?_cons_succ, Option.some.injEq] at hjq
                  subst hjq
                  intro B a w hB hb hk
                  obtain ⟨b0, hb0⟩ := hB
                  have e44 : a.eval (.tmp 44) = .pointer (some ⟨R, 3, none⟩) := hk b0 hb0 44 (by decide)
                  refine ⟨rfl, opwp_ldI rfl e44 ((hb.cell (p := ⟨R, 3, none⟩) hR).trans c3) ?_⟩
                  exact ⟨Below.refl _ _, _, rfl, fun d hd b _ _ => by cases hd; rfl⟩
                | 9, hjq, _, _ =>
                  simp only [List.getElem?_toArray, List.getElem?_cons_zero, List.getElem?_cons_succ, Option.some.injEq] at hjq
                  subst hjq
                  intro B a w hB hb hk
                  obtain ⟨b0, hb0⟩ := hB
                  have e40 : a.eval (.tmp 40) = .string ⟨s.toArray⟩ := hk b0 hb0 40 (by decide)
                  have e45 : a.eval (.tmp 45) = .int .i64 t2.to_ := hk b0 hb0 45 (by decide)
                  refine ⟨rfl, opwp_call (fun v w' => v = .tuple #[.agg #[.int .i64 kd, .int .i64 fr, .int .i64 to1, .int .i64 n1, .int .u64 u1, .string ⟨tx.toArray⟩], .int .i64 er] ∧ Below w.heap.size w w') (exec_call [a.eval (.tmp 40), a.eval (.tmp 45)] Tryz.func43 (by kernel_rfl) rfl rfl rfl) ?_ ?_⟩
                  · rw [e40, e45]
                    refine (HL.out w hb).mono ?_
                    rintro e w' ⟨rfl, h⟩
                    exact ⟨_, rfl, rfl, h⟩
                  · rintro v w' ⟨rfl, h⟩
                    exact ⟨h, _, rfl, fun d hd b _ _ => by cases hd; rfl⟩
                | 10, hjq, _, _ =>
                  simp only [List.getElem?_toArray, List.getElem?_cons_zero, List.getElem?_cons_succ, Option.some.injEq] at hjq
                  subst hjq
                  intro B a w hB hb hk
                  obtain ⟨b0, hb0⟩ := hB
                  have e46 : a.eval (.tmp 46) = .tuple #[.agg #[.int .i64 kd, .int .i64 fr, .int .i64 to1, .int .i64 n1, .int .u64 u1, .string ⟨tx.toArray⟩], .int .i64 er] := hk b0 hb0 46 (by decide)
                  refine ⟨rfl, opwp_move rfl e46 ?_⟩
                  exact ⟨Below.refl _ _, _, rfl, fun d hd b _ _ => by cases hd; rfl⟩
                | 11, hjq, _, _ =>
                  simp only [List.getElem?_toArray, List.getElem?_cons_zero, List.getElem?_cons_succ, Option.some.injEq] at hjq
                  subst hjq
                  intro B a w hB hb hk
                  obtain ⟨b0, hb0⟩ := hB
                  have e36 : a.eval (.tmp 36) = .tuple #[.agg #[.int .i64 kd, .int .i64 fr, .int .i64 to1, .int .i64 n1, .int .u64 u1, .string ⟨tx.toArray⟩], .int .i64 er] := hk b0 hb0 36 (by decide)
                  refine ⟨rfl, opwp_ext (.agg #[.int .i64 kd, .int .i64 fr, .int .i64 to1, .int .i64 n1, .int .u64 u1, .string ⟨tx.toArray⟩]) rfl e36 rfl ?_⟩
                  exact ⟨Below.refl _ _, _, rfl, fun d hd b _ _ => by cases hd; rfl⟩
                | 12, hjq, _, _ =>
                  simp only [List.getElem?_toArray, List.getElem?_cons_zero, List.getElem?_cons_succ, Option.some.injEq] at hjq
                  subst hjq
                  intro B a w hB hb hk
                  obtain ⟨b0, hb0⟩ := hB
                  have e36 : a.eval (.tmp 36) = .tuple #[.agg #[.int .i64 kd, .int .i64 fr, .int .i64 to1, .int .i64 n1, .int .u64 u1, .string ⟨tx.toArray⟩], .int .i64 er] := hk b0 hb0 36 (by decide)
                  refine ⟨rfl, opwp_ext (.int .i64 er) rfl e36 rfl ?_⟩
                  exact ⟨Below.refl _ _, _, rfl, fun d hd b _ _ => by cases hd; rfl⟩
                | 13, hjq, h, _ => exact absurd rfl h
                | 14, hjq, _, h => exact absurd (by decide) h
                | 15, hjq, _, _ =>
                  simp only [List.getElem?_toArray, List.getElem?_cons_zero, List.getElem?_cons_succ, Option.some.injEq] at hjq
                  subst hjq
                  intro B a w hB hb hk
                  obtain ⟨b0, hb0⟩ := hB
                  have e48 : a.eval (.tmp 48) = .int .i64 er := hk b0 hb0 48 (by decide)
                  refine ⟨rfl, opwp_assign rfl e48 ?_⟩
                  exact ⟨Below.refl _ _, _, rfl, fun d hd b _ _ => by cases hd; rfl⟩
                | kq + 16, hjq, _, _ => cases hjq
              intro P6 f w4 hb hp1 hp2 hp hblk
              have e6 : f 6 = .pointer (some ⟨P6, 0, none⟩) := hp 6 (by decide)
              have e7 : f 7 = .int .i64 er := hp 7 (by decide)
              simp only [puts, List.foldl, Act.put, List.setIfInBounds_toArray, List.set_cons_zero, List.set_cons_succ]
              simp only [e6, e7]
              generalize f 37 = v37
              generalize f 38 = v38
              generalize f 39 = v39
              generalize f 40 = v40
              generalize f 41 = v41
              generalize f 42 = v42
              generalize f 43 = v43
              generalize f 44 = v44
              generalize f 45 = v45
              generalize f 46 = v46
              generalize f 36 = v36
              generalize f 47 = v47
              generalize f 48 = v48
              have hblk2 : w4.heap[P6]? = some (.cells #[.int .i64 kd, .int .i64 fr, .int .i64 to1, .int .i64 n1, .int .u64 u1, .string ⟨tx.toArray⟩] 43 (0, 0)) := hblk
              have hE4 := HE.out.quiet HJ.out hb
              have hG4 := hE4.glb HGL.out HGR.out hRB
              have y0 : w4.cell? ⟨P6, 0, none⟩ = some (.int .i64 kd) := cell_of_row _ _ _ _ _ _ hblk2
              have y1 : w4.cell? ⟨P6, 1, none⟩ = some (.int .i64 fr) := cell_of_row _ _ _ _ _ _ hblk2
              have HE4 := Lib.hid hE4
              have HPX := Lib.hid (HPA2.out w4 hE4.p hG4)
              clear hp e6 e7 hblk hblk2 hb hE4 hG4 HPA2 HL HE c0 c3 hp1 hp2 hGr
              have hstop : (er = 0 ∧ kd = 2) ∨ ¬ (er = 0 ∧ kd = 2) := Decidable.em _
              rcases hstop with ⟨he, hk⟩ | hno
              · subst he hk
                have e := HR1.out
                rw [if_pos (show (0 : Int) = 0 ∧ (2 : Int) = lastP true from ⟨rfl, rfl⟩)] at e
                dsimp only at e
                have HRE := Lib.hid e
                clear e HR1 HPX
                go_wp2_with fail
                have hfin : EachPost B R s J w res (.panicked (panV (fr, 100))) w4 := by rw [← HRE.out]; exact ⟨HE4.out.f, rfl⟩
                exact ⟨rfl, hfin⟩
              · have e := HR1.out
                rw [if_neg (show ¬ (er = 0 ∧ kd = lastP true) from hno)] at e
                have HRE := Lib.hid e
                clear e HR1
                by_cases he : er = 0
                case' pos =>
                  have ez : (er == 0) = true := by simp [he]
                  have ek : (kd == 2) = false := by simp; intro hk; exact hno ⟨he, hk⟩
                case' neg =>
                  have ez : (er == 0) = false := by simp [he]
                all_goals
                  clear hno he
                  go_wp2_with fail
                  refine HPX.out.mono ?_
                  intro o w5 hh
                  rw [if_pos h5] at hh
                  obtain ⟨ht, hn⟩ := hh
                  cases hq : nextP s t2 with
                  | error x =>
                    rw [hq] at hn
                    obtain rfl := hn
                    have e := HRE.out
                    rw [hq] at e
                    have hfin : EachPost B R s J w res (.panicked (panV x)) w5 := by rw [← e]; exact ⟨HE4.out.f.trans (ht.tch HE4.out.b), rfl⟩
                    exact ⟨rfl, hfin⟩
                  | ok t3 =>
                    rw [hq] at hn
                    obtain ⟨rfl, hp3⟩ := hn
                    have e := HRE.out
                    rw [hq] at e
                    dsimp only at e
                    have HX := Lib.hid (HE4.out.next HJ.out ht hp3)
                    have HRE2 := Lib.hid e
                    obtain ⟨-, -, -, -, -, -, -, z7, -⟩ := hp3.cells
                    clear hq hp3 ht e HRE HPX y0 y1
                    go_wp2_with fail
                    go_roundw
                    case rel => exact ⟨g, t3, m, ks1, acc ++ [T], by omega, by omega, hm2, by omega, HX.out, HRE2⟩
                    case measure =>
                      rw [z7, HW7.out]
                      simp only [Option.getD_some, intOf]
                      omega
            · have e5 : (t2.kind == 5) = false := by simp [h5]
              rw [if_pos h5] at e
              have HR1 := Lib.hid e
              have HNE := Lib.hid (HY.out t2 m R false 100 w2 hE.p)
              clear e hE hGr c0 c2 c3 c4 c5 c6 c7 cf h1 h5
              go_wp2_with fail
              refine HNE.out.mono ?_
              rintro o w3 ⟨rfl, rfl⟩
              have hfin : EachPost B R s J w res (.panicked (panV (t2.from_, 100))) w2 := by rw [← HR1.out]; exact ⟨HE.out.f, rfl⟩
              exact ⟨rfl, hfin⟩
end Go.Proofs.YtccmhhmdenfecaaGreatDoor
