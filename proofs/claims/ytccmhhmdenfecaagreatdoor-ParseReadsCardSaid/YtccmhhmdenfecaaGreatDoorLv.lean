/- The walk of lex.reader's number. -/
import Derived.Test.YtccmhhmdenfecaaGreatDoorLo
import Derived.Test.YtccmhhmdenfecaaGreatDoorLt
namespace Go.Proofs.YtccmhhmdenfecaaGreatDoor
set_option linter.unusedVariables false
set_option linter.unusedSimpArgs false
open Go.RowKit Go.Shelf
/-- Where a method of the reader stands: its result in the block B of the world w at its begin, the reader at k. -/
structure NI (w : World) (R : Nat) (l : List UInt8) (a k : Nat) (wn : World) : Prop where
  t : Tch w.heap.size [R] w wn
  z : w.heap.size < wn.heap.size
  r : LRow wn R l k a
  g : Glb wn
  b : Gb wn.heap.size
  ne : R < w.heap.size
  o : Zero6 wn w.heap.size
theorem NI.tch {w : World} {R : Nat} {l : List UInt8} {a k k' : Nat} {wn w1 : World} (h : NI w R l a k wn) (hR : Gb R) (ht : Tch wn.heap.size [R] wn w1) (hr : LRow w1 R l k' a) : NI w R l a k' w1 :=
  ⟨h.t.call ht (Nat.le_of_lt h.z), Nat.lt_of_lt_of_le h.z ht.size, hr, h.g.tch ht h.b hR, h.b.mono ht.size, h.ne, ht.row h.o h.z (by simp; have := h.ne; omega)⟩
theorem NI.quiet {w : World} {R : Nat} {l : List UInt8} {a k : Nat} {wn w1 : World} (h : NI w R l a k wn) (hb : Below wn.heap.size wn w1) : NI w R l a k w1 :=
  ⟨h.t.quiet hb (Nat.le_of_lt h.z), Nat.lt_of_lt_of_le h.z hb.size, (hb.block _ (Nat.lt_trans h.ne h.z)).trans h.r, h.g.below hb h.b, h.b.mono hb.size, h.ne, (hb.block _ h.z).trans h.o⟩
theorem NI.one {w : World} {R : Nat} {l : List UInt8} {a k : Nat} {wn : World} (h : NI w R l a k wn) (hR : Gb R) (hl : l.length ≤ 1073741824) (cs : List UInt8) :
    Calls Tryz.prog 103 #[.pointer (some ⟨R, 0, none⟩), strV cs] wn fun e w1 => e = .returned (.bool (oneB l cs k)) ∧ NI w R l a (k + oneN l cs k) w1 :=
  (one_any l cs k a R wn h.r hl).mono fun _ _ ⟨he, ht, hr⟩ => ⟨he, h.tch hR ht (by rw [Int.natCast_add]; exact hr)⟩
theorem NI.yes {w : World} {R : Nat} {l : List UInt8} {a k : Nat} {wn : World} (h : NI w R l a k wn) (hR : Gb R) (hl : l.length ≤ 1073741824) {cs : List UInt8} (hb : oneB l cs k = true) :
    Calls Tryz.prog 103 #[.pointer (some ⟨R, 0, none⟩), strV cs] wn fun e w1 => e = .returned (.bool true) ∧ NI w R l a (k + 1) w1 := by
  have := h.one hR hl cs
  unfold oneN at this
  rw [hb, if_pos rfl] at this
  exact this
theorem NI.no {w : World} {R : Nat} {l : List UInt8} {a k : Nat} {wn : World} (h : NI w R l a k wn) (hR : Gb R) (hl : l.length ≤ 1073741824) {cs : List UInt8} (hb : oneB l cs k = false) :
    Calls Tryz.prog 103 #[.pointer (some ⟨R, 0, none⟩), strV cs] wn fun e w1 => e = .returned (.bool false) ∧ NI w R l a k w1 := by
  have := h.one hR hl cs
  unfold oneN at this
  rw [hb, if_neg Bool.false_ne_true] at this
  exact this
theorem dd_ascii : ∀ (j : Nat) b, DD[j]? = some b → b.toNat < 128 := by
  intro j b h
  have hm : b ∈ DD := List.mem_of_getElem? h
  have : ∀ c ∈ DD, c.toNat < 128 := by decide
  exact this b hm
theorem NI.digs {w : World} {R : Nat} {l : List UInt8} {a k : Nat} {wn : World} (h : NI w R l a k wn) (hR : Gb R) (hl : l.length ≤ 1073741824) (hk : k ≤ l.length) (hn : overN l DD k ≠ 0) :
    Calls Tryz.prog 68 #[.pointer (some ⟨R, 0, none⟩), strV DD] wn fun e w1 => e = .returned (.bool true) ∧ NI w R l a (k + overN l DD k) w1 :=
  (over_any l DD k a R wn h.r hk hl (by decide) dd_ascii).mono fun _ _ ⟨he, ht, hr⟩ => ⟨by rw [he, decide_eq_true (by omega)], h.tch hR ht (by rw [Int.natCast_add]; exact hr)⟩
theorem NI.nodigs {w : World} {R : Nat} {l : List UInt8} {a k : Nat} {wn : World} (h : NI w R l a k wn) (hR : Gb R) (hl : l.length ≤ 1073741824) (hk : k ≤ l.length) (hn : overN l DD k = 0) :
    Calls Tryz.prog 68 #[.pointer (some ⟨R, 0, none⟩), strV DD] wn fun e w1 => e = .returned (.bool false) ∧ NI w R l a k w1 := by
  have := over_any l DD k a R wn h.r hk hl (by decide) dd_ascii
  rw [hn] at this
  exact this.mono fun _ _ ⟨he, ht, hr⟩ => ⟨he, h.tch hR ht hr⟩
theorem NI.wrong {w : World} {R : Nat} {l : List UInt8} {a k : Nat} {wn : World} (h : NI w R l a k wn) (x e : Int) :
    Calls Tryz.prog 67 #[.int .i64 x, .int .i64 e] wn fun o w1 => o = .returned (.tuple #[.agg #[.int .i64 0, .int .i64 x, .int .i64 x, .int .i64 0, .int .u64 0, .string ⟨#[]⟩], .int .i64 e]) ∧ NI w R l a k w1 :=
  (wrong_any x e wn).mono fun _ _ ⟨he, hb⟩ => ⟨he, h.quiet hb⟩
theorem NI.token {w : World} {R : Nat} {l : List UInt8} {a k : Nat} {wn : World} (h : NI w R l a k wn) (kd x y n u : Int) (t : List UInt8) :
    Calls Tryz.prog 69 #[.pointer (some ⟨R, 0, none⟩), .agg #[.int .i64 kd, .int .i64 x, .int .i64 y, .int .i64 n, .int .u64 u, .string ⟨t.toArray⟩]] wn fun o w1 => o = .returned (.tuple #[.agg #[.int .i64 kd, .int .i64 a, .int .i64 k, .int .i64 n, .int .u64 u, .string ⟨t.toArray⟩], .int .i64 0]) ∧ NI w R l a k w1 :=
  (token_any l ⟨kd, x, y, n, u, t⟩ k a R wn h.r).mono fun _ _ ⟨he, hb⟩ => ⟨he, h.quiet hb⟩
/-- The end: the result is stored and handed back. -/
theorem NI.end6 {w : World} {R : Nat} {l : List UInt8} {a k : Nat} {wn : World} (h : NI w R l a k wn) (v0 v1 v2 v3 v4 v5 : Value) :
    Tch w.heap.size [R] w ((((((wn.setCell ⟨w.heap.size, 0, none⟩ v0).setCell ⟨w.heap.size, 1, none⟩ v1).setCell ⟨w.heap.size, 2, none⟩ v2).setCell ⟨w.heap.size, 3, none⟩ v3).setCell ⟨w.heap.size, 4, none⟩ v4).setCell ⟨w.heap.size, 5, none⟩ v5) :=
  set6 h.t (Nat.le_refl _) v0 v1 v2 v3 v4 v5
theorem whole_cases (l : List UInt8) (k1 : Nat) (hk : k1 ≤ l.length) : (oneB l [48] k1 = false ∧ overN l DD k1 = 0) ∨ ∃ k2, k1 < k2 ∧ k2 ≤ l.length ∧ (∀ c ∈ (l.drop k1).take (k2 - k1), digB c = true) ∧ (l.drop k1).take (k2 - k1) ≠ [] ∧ (∀ nb a, numS0 nb l a k1 = numS1 nb l a k1 k2) ∧
    ((oneB l [48] k1 = true ∧ k2 = k1 + 1) ∨ (oneB l [48] k1 = false ∧ overN l DD k1 ≠ 0 ∧ k2 = k1 + overN l DD k1)) := by
  have hne : ∀ k2, k1 < k2 → k2 ≤ l.length → (l.drop k1).take (k2 - k1) ≠ [] := fun k2 h1 h2 he => by
    have := congrArg List.length he
    rw [List.length_take, List.length_drop, List.length_nil] at this
    omega
  cases hz : oneB l [48] k1 with
  | true =>
    have hlt := one_lt hz
    refine .inr ⟨k1 + 1, by omega, by omega, ?_, hne _ (by omega) (by omega), fun nb a => by unfold numS0; rw [if_pos hz], .inl ⟨rfl, rfl⟩⟩
    rw [Nat.add_sub_cancel_left]
    rw [one_eq, List.drop_eq_getElem_cons hlt] at hz
    rw [List.drop_eq_getElem_cons hlt, List.take_succ_cons, List.take_zero]
    intro c hc
    rw [List.mem_singleton] at hc
    have hz' : l[k1] = 48 := by unfold headB at hz; rw [List.head?_cons, Option.any_some] at hz; simpa using hz
    rw [hc, hz']
    decide
  | false =>
    by_cases hd : overN l DD k1 = 0
    · exact .inl ⟨rfl, hd⟩
    · have hle := overN_le l DD k1
      refine .inr ⟨k1 + overN l DD k1, by omega, by omega, ?_, hne _ (by omega) (by omega), fun nb a => by unfold numS0; rw [hz, if_neg Bool.false_ne_true, if_neg hd], .inr ⟨rfl, hd, rfl⟩⟩
      rw [Nat.add_sub_cancel_left, over_digs]
      exact (digs_all _).1
/-- strconv.ParseUint at digits. -/
theorem parse_no (x : List UInt8) (hd : ∀ c ∈ x, digB c = true) (hn : x ≠ []) (hl : x.length ≤ 1073741824) (w : World) (hG : Glb w) (hv : 2 ^ 64 ≤ valU x) :
    Calls Tryz.prog 106 #[.string ⟨x.toArray⟩, .int .i64 10, .int .i64 64] w fun e w' => (∃ N, e = .returned (.tuple #[.int .u64 18446744073709551615, .iface 194 (.pointer (some ⟨N, 0, none⟩))])) ∧ Below w.heap.size w w' := by
  obtain ⟨tp, p, hc⟩ := hG.er
  refine (Tryz.strconv_ParseUint_10_at64_range ⟨x.toArray⟩ (by simp [ByteArray.size]; omega) (by rw [show (⟨x.toArray⟩ : ByteArray).data.toList = x from rfl, parse_digs hd hn, if_pos hv]) _ w hc (.inr ⟨tp, p, rfl⟩)).mono ?_
  rintro e w' ⟨N, rfl, -, -, hb⟩
  exact ⟨⟨N, rfl⟩, hb⟩
theorem parse_yes (x : List UInt8) (hd : ∀ c ∈ x, digB c = true) (hn : x ≠ []) (hl : x.length ≤ 1073741824) (w : World) (hv : ¬ 2 ^ 64 ≤ valU x) :
    Calls Tryz.prog 106 #[.string ⟨x.toArray⟩, .int .i64 10, .int .i64 64] w fun e w' => e = .returned (.tuple #[.int .u64 (valU x), .nilIface]) ∧ Below w.heap.size w w' := by
  refine (Tryz.strconv_ParseUint_10_at64_ok ⟨x.toArray⟩ (by simp [ByteArray.size]; omega) (valU x) (by rw [show (⟨x.toArray⟩ : ByteArray).data.toList = x from rfl, parse_digs hd hn, if_neg hv]) w).mono ?_
  rintro e w' ⟨rfl, hb⟩
  refine ⟨rfl, ?_⟩
  rcases hb with rfl | rfl
  · exact Below.refl _ _
  · exact Lib.bytesWorld_below _ _ _
theorem parse_some (x : List UInt8) (hd : ∀ c ∈ x, digB c = true) (hn : x ≠ []) (hl : x.length ≤ 1073741824) (w : World) (hG : Glb w) :
    Calls Tryz.prog 106 #[.string ⟨x.toArray⟩, .int .i64 10, .int .i64 64] w fun e w' => ∃ (px : Int) (pv : Value), e = .returned (.tuple #[.int .u64 px, pv]) ∧ Below w.heap.size w w' := by
  by_cases hv : 2 ^ 64 ≤ valU x
  · exact (parse_no x hd hn hl w hG hv).mono fun _ _ ⟨⟨N, he⟩, hb⟩ => ⟨_, _, he, hb⟩
  · exact (parse_yes x hd hn hl w hv).mono fun _ _ ⟨he, hb⟩ => ⟨_, _, he, hb⟩
theorem neg_u64 {u : Nat} (h : u ≤ 9223372036854775808) : IntKind.i64.wrap (IntKind.u64.wrap (-(u : Int))) = -(u : Int) := by
  rcases Nat.eq_zero_or_pos u with rfl | hp
  · rfl
  · have e : IntKind.u64.wrap (-(u : Int)) = 18446744073709551616 - u := by
      simp [IntKind.wrap, IntKind.signed, IntKind.bits]
      omega
    rw [e]
    simp [IntKind.wrap, IntKind.signed, IntKind.bits]
    (repeat' split) <;> omega
set_option maxHeartbeats 16000000 in
set_option maxRecDepth 100000 in
theorem number_any (l : List UInt8) (a : Nat) (R : Nat) (w : World) (h : LRow w R l a a) (hR : Gb R) (hl : l.length ≤ 1073741824) (ha : a ≤ l.length) (hG : Glb w) (hB : Gb w.heap.size) :
    Calls Tryz.prog 73 #[.pointer (some ⟨R, 0, none⟩)] w fun o w' => o = .returned (trV (numS l a)) ∧ Tch w.heap.size [R] w w' := by
  have hRw := h.lt
  have HI := Lib.hid (And.intro h (And.intro hG hB))
  clear h hG hB
  unfold numS
  have hk1 := oneN_le l [45] a ha
  generalize hres : numS0 (oneB l [45] a) l a (a + oneN l [45] a) = res
  go_enter Tryz.func73, Tryz.ntmps73
  go_upto_region 1 with fail
  refine wp_named (NI w R l a a) ⟨(Tch.refl _ _ w).alloc (Nat.le_refl _) _, by simp, (Lib.alloc_old w _ R hRw).trans HI.out.1, HI.out.2.1.below ((Below.refl _ w).alloc (Nat.le_refl _) _) HI.out.2.2, HI.out.2.2.mono (by simp), hRw, heap_alloc_new _ _⟩ ?_
  rintro wn hN0
  have HR0 := Lib.hid hres
  clear hres
  go_wp2_with fail
  refine (hN0.one hR hl [45]).mono ?_
  rintro e w1 ⟨rfl, hN⟩
  have hres := HR0.out
  clear HR0 hN0
  generalize oneB l [45] a = nb at *
  generalize a + oneN l [45] a = k1 at *
  obtain ⟨-, c1, -, -⟩ := hN.r.cells
  rcases whole_cases l k1 hk1 with ⟨hz, hd⟩ | ⟨k2, hlt2, hle2, hdg, hne, hS, hcase⟩
  · have HR := Lib.hid (show res = wrongT (k1 : Int) 100 by rw [← hres]; unfold numS0; rw [hz, if_neg Bool.false_ne_true, if_pos hd])
    obtain ⟨kk, hkk⟩ : ∃ x, x = k1 := ⟨_, rfl⟩
    subst hkk
    clear hres
    go_wp2_with fail
    refine (hN.no hR hl hz).mono ?_
    rintro e w2 ⟨rfl, hN2⟩
    clear hN
    go_wp2_with fail
    refine (hN2.nodigs hR hl hk1 hd).mono ?_
    rintro e w3 ⟨rfl, hN⟩
    clear hN2 hz hd c1
    obtain ⟨-, c1, -, -⟩ := hN.r.cells
    have HN := Lib.hid hN
    clear hN
    go_wp2_with fail
    refine (HN.out.wrong _ _).mono ?_
    rintro o w9 ⟨rfl, hN9⟩
    obtain ⟨n0, n1, n2, n3, n4, n5, hfz⟩ := hN9.o.cells
    have f0 := hfz 0
    have f1 := hfz 1
    have f2 := hfz 2
    have f3 := hfz 3
    have f4 := hfz 4
    have f5 := hfz 5
    have H9 := Lib.hid hN9
    clear hN9 hfz
    go_wp2_with fail
    refine bodyPost_ret (v := trV (wrongT (kk : Int) 100)) (by simp [results, Tryz.results73, go_sem, trV, tokV, strV, wrongT, *]) rfl ?_
    exact ⟨by rw [HR.out], H9.out.end6 _ _ _ _ _ _⟩
  · rw [hS] at hres
    clear hS hk1
    rcases hcase with ⟨hz, hk2⟩ | ⟨hz, hd, hk2⟩
    case' inl =>
      go_wp2_with fail
      refine (hN.yes hR hl hz).mono ?_
      rintro e w3 ⟨rfl, hN3⟩
      rw [← hk2] at hN3
    case' inr =>
      go_wp2_with fail
      refine (hN.no hR hl hz).mono ?_
      rintro e w2 ⟨rfl, hN2⟩
      clear c1
      go_wp2_with fail
      refine (hN2.digs hR hl (by omega) hd).mono ?_
      rintro e w3 ⟨rfl, hN3⟩
      rw [← hk2] at hN3
      clear hN2 hd
    all_goals
      have HP := Lib.hid (And.intro hdg (And.intro hne hres))
      clear hN hz hk2 hdg hne hres
      go_upto_region 5 with fail
      obtain ⟨c0, c1', -, -⟩ := hN3.r.cells
      unfold strV at c0
      have hsl := fun W => sub_run l k1 k2 (by omega) hle2 W
      go_quiet (fail)
      have hN4 := hN3.quiet (below_drewN (Below.refl _ w3) nq)
      clear hsl c0 c1' hN3
      generalize w3.drewN nq = w4 at *
      cases hp : oneB l [46] k2
      · have HQ := Lib.hid (show numS2 nb l a k1 k2 false k2 = res by rw [← HP.out.2.2]; unfold numS1; rw [hp, if_neg Bool.false_ne_true])
        obtain ⟨k3, hk3⟩ : ∃ x, x = k2 := ⟨_, rfl⟩
        rw [← hk3] at hN4
        have HQ1 := Lib.hid (show numS2 nb l a k1 k2 false k3 = res by rw [hk3]; exact HQ.out)
        have hle3' : k3 ≤ l.length := by omega
        rw [← hk3] at hp
        clear HQ hk3
        have HQ := HQ1
        clear HQ1
        go_wp2_with fail
        refine (hN4.no hR hl hp).mono ?_
        rintro e w5 ⟨rfl, hN⟩
        clear hN4 hp
        have hle3 := overN_le l DD k3
        cases hq : oneB l [101, 69] k3
        · have HQ2 := Lib.hid (show numS3 nb l a k1 k2 false k3 = res by rw [← HQ.out]; unfold numS2; rw [hq, if_neg Bool.false_ne_true])
          clear HQ
          go_wp2_with fail
          refine (hN.no hR hl hq).mono ?_
          rintro e w6 ⟨rfl, hN6⟩
          clear hN hq
          have hN := hN6
          clear hN6
          have hiq := HQ2.out
          unfold numS3 at hiq
          rw [if_neg Bool.false_ne_true] at hiq
          unfold intT at hiq
          have HIQ := Lib.hid hiq
          clear hiq
          by_cases h64 : 2 ^ 64 ≤ valU ((l.drop k1).take (k2 - k1))
          · have HR := Lib.hid (show res = wrongT (a : Int) 101 by rw [← HIQ.out, if_pos (.inl h64)])
            have hG := hN.g
            have HX := Lib.hid (parse_no _ HP.out.1 HP.out.2.1 (by simp only [List.length_take, List.length_drop]; omega) _ hG h64)
            clear hG h64
            go_wp2_with fail
            refine HX.out.mono ?_
            rintro e w8 ⟨⟨N, rfl⟩, hb8⟩
            have hN8 := hN.quiet hb8
            clear hb8 hN HX
            obtain ⟨-, -, c2, -⟩ := hN8.r.cells
            have HN := Lib.hid hN8
            clear hN8
            go_wp2_with fail
            refine (HN.out.wrong _ _).mono ?_
            rintro o w9 ⟨rfl, hN9⟩
            obtain ⟨n0, n1, n2, n3, n4, n5, hfz⟩ := hN9.o.cells
            have f0 := hfz 0
            have f1 := hfz 1
            have f2 := hfz 2
            have f3 := hfz 3
            have f4 := hfz 4
            have f5 := hfz 5
            have H9 := Lib.hid hN9
            clear hN9 hfz
            go_wp2_with fail
            refine bodyPost_ret (v := trV (wrongT (a : Int) 101)) (by simp [results, Tryz.results73, go_sem, trV, tokV, strV, wrongT, *]) rfl ?_
            exact ⟨by rw [HR.out], H9.out.end6 _ _ _ _ _ _⟩
          have HX := Lib.hid (parse_yes _ HP.out.1 HP.out.2.1 (by simp only [List.length_take, List.length_drop]; omega) w6 h64)
          generalize valU ((l.drop k1).take (k2 - k1)) = u at *
          have hu64 : u < 18446744073709551616 := by omega
          cases nb
          · by_cases h63 : 9223372036854775808 ≤ u
            · have HR := Lib.hid (show res = (⟨11, (a : Int), (k3 : Int), 0, (u : Int), []⟩, 0) by rw [← HIQ.out, if_neg (by rintro (h | ⟨h, -⟩); omega; cases h), if_neg Bool.false_ne_true, if_pos (by omega)])
              have hz63 : (9223372036854775808 : Int) ≤ (u : Int) := by omega
              clear h64 h63
              go_wp2_with fail
              refine HX.out.mono ?_
              rintro e w8 ⟨rfl, hb8⟩
              have hN8 := hN.quiet hb8
              clear hb8 hN HX
              have HN := Lib.hid hN8
              clear hN8
              go_wp2_with fail
              refine (HN.out.token _ _ _ _ _ []).mono ?_
              rintro o w9 ⟨rfl, hN9⟩
              obtain ⟨n0, n1, n2, n3, n4, n5, hfz⟩ := hN9.o.cells
              have f0 := hfz 0
              have f1 := hfz 1
              have f2 := hfz 2
              have f3 := hfz 3
              have f4 := hfz 4
              have f5 := hfz 5
              have H9 := Lib.hid hN9
              clear hN9 hfz
              go_wp2_with fail
              refine bodyPost_ret (v := trV ((⟨11, (a : Int), (k3 : Int), 0, (u : Int), []⟩, 0))) (by simp [results, Tryz.results73, go_sem, trV, tokV, strV, wrongT, *]) rfl ?_
              exact ⟨by rw [HR.out], H9.out.end6 _ _ _ _ _ _⟩
            · have HR := Lib.hid (show res = (⟨10, (a : Int), (k3 : Int), (u : Int), 0, []⟩, 0) by rw [← HIQ.out, if_neg (by rintro (h | ⟨h, -⟩); omega; cases h), if_neg Bool.false_ne_true, if_neg (by omega)])
              have hz63 : ¬ (9223372036854775808 : Int) ≤ (u : Int) := by omega
              have qw : IntKind.i64.wrap (u : Int) = u := IntWalk.i64_in _ (by omega)
              have hz0 : (0 : Int) ≤ (u : Int) := by omega
              clear h64 h63 hu64 HIQ
              generalize (u : Int) = z at *
              go_wp2_with fail
              refine HX.out.mono ?_
              rintro e w8 ⟨rfl, hb8⟩
              have hN8 := hN.quiet hb8
              clear hb8 hN HX
              have HN := Lib.hid hN8
              clear hN8
              go_wp2_with fail
              refine (HN.out.token _ _ _ _ _ []).mono ?_
              rintro o w9 ⟨rfl, hN9⟩
              obtain ⟨n0, n1, n2, n3, n4, n5, hfz⟩ := hN9.o.cells
              have f0 := hfz 0
              have f1 := hfz 1
              have f2 := hfz 2
              have f3 := hfz 3
              have f4 := hfz 4
              have f5 := hfz 5
              have H9 := Lib.hid hN9
              clear hN9 hfz
              go_wp2_with fail
              refine bodyPost_ret (v := trV ((⟨10, (a : Int), (k3 : Int), z, 0, []⟩, 0))) (by simp [results, Tryz.results73, go_sem, trV, tokV, strV, wrongT, *]) rfl ?_
              exact ⟨by rw [HR.out], H9.out.end6 _ _ _ _ _ _⟩
          · by_cases h63 : 9223372036854775808 < u
            · have HR := Lib.hid (show res = wrongT (a : Int) 101 by rw [← HIQ.out, if_pos (.inr ⟨rfl, by omega⟩)])
              have hz63 : (9223372036854775808 : Int) < (u : Int) := by omega
              clear h64 h63
              go_wp2_with fail
              refine HX.out.mono ?_
              rintro e w8 ⟨rfl, hb8⟩
              have hN8 := hN.quiet hb8
              clear hb8 hN HX
              obtain ⟨-, -, c2, -⟩ := hN8.r.cells
              have HN := Lib.hid hN8
              clear hN8
              go_wp2_with fail
              refine (HN.out.wrong _ _).mono ?_
              rintro o w9 ⟨rfl, hN9⟩
              obtain ⟨n0, n1, n2, n3, n4, n5, hfz⟩ := hN9.o.cells
              have f0 := hfz 0
              have f1 := hfz 1
              have f2 := hfz 2
              have f3 := hfz 3
              have f4 := hfz 4
              have f5 := hfz 5
              have H9 := Lib.hid hN9
              clear hN9 hfz
              go_wp2_with fail
              refine bodyPost_ret (v := trV (wrongT (a : Int) 101)) (by simp [results, Tryz.results73, go_sem, trV, tokV, strV, wrongT, *]) rfl ?_
              exact ⟨by rw [HR.out], H9.out.end6 _ _ _ _ _ _⟩
            · have HR := Lib.hid (show res = (⟨10, (a : Int), (k3 : Int), -(u : Int), 0, []⟩, 0) by rw [← HIQ.out, if_neg (by rintro (h | ⟨-, h⟩) <;> omega), if_pos rfl])
              have hz63 : ¬ (9223372036854775808 : Int) < (u : Int) := by omega
              have qw : IntKind.i64.wrap (IntKind.u64.wrap (-(u : Int))) = -(u : Int) := neg_u64 (by omega)
              clear h64 h63
              go_wp2_with fail
              refine HX.out.mono ?_
              rintro e w8 ⟨rfl, hb8⟩
              have hN8 := hN.quiet hb8
              clear hb8 hN HX
              have HN := Lib.hid hN8
              clear hN8
              go_wp2_with fail
              refine (HN.out.token _ _ _ _ _ []).mono ?_
              rintro o w9 ⟨rfl, hN9⟩
              obtain ⟨n0, n1, n2, n3, n4, n5, hfz⟩ := hN9.o.cells
              have f0 := hfz 0
              have f1 := hfz 1
              have f2 := hfz 2
              have f3 := hfz 3
              have f4 := hfz 4
              have f5 := hfz 5
              have H9 := Lib.hid hN9
              clear hN9 hfz
              go_wp2_with fail
              refine bodyPost_ret (v := trV ((⟨10, (a : Int), (k3 : Int), -(u : Int), 0, []⟩, 0))) (by simp [results, Tryz.results73, go_sem, trV, tokV, strV, wrongT, *]) rfl ?_
              exact ⟨by rw [HR.out], H9.out.end6 _ _ _ _ _ _⟩
        · have hlt3 := one_lt hq
          have hle4 := oneN_le l [43, 45] (k3 + 1) (by omega)
          have HQ2 := Lib.hid (show (if overN l DD (k3 + 1 + oneN l [43, 45] (k3 + 1)) = 0 then wrongT ((k3 + 1 + oneN l [43, 45] (k3 + 1) : Nat) : Int) 100 else wrongT (a : Int) 101) = res by rw [← HQ.out]; unfold numS2; rw [hq, if_pos rfl])
          clear HQ
          go_wp2_with fail
          refine (hN.yes hR hl hq).mono ?_
          rintro e w6 ⟨rfl, hN6⟩
          clear hN hq
          have HO := Lib.hid (hN6.one hR hl [43, 45])
          clear hN6
          go_wp2_with fail
          refine HO.out.mono ?_
          generalize k3 + 1 + oneN l [43, 45] (k3 + 1) = kk at *
          generalize oneB l [43, 45] (k3 + 1) = bb at *
          rintro e w7 ⟨rfl, hN7⟩
          clear HO
          by_cases hd4 : overN l DD kk = 0
          · have HR := Lib.hid (show res = wrongT (kk : Int) 100 by rw [← HQ2.out, if_pos hd4])
            have HO := Lib.hid (hN7.nodigs hR hl hle4 hd4)
            clear hN7 HQ2 hd4
            go_wp2_with fail
            refine HO.out.mono ?_
            rintro e w8 ⟨rfl, hN⟩
            clear HO
            obtain ⟨-, c1, -, -⟩ := hN.r.cells
            have HN := Lib.hid hN
            clear hN
            go_wp2_with fail
            refine (HN.out.wrong _ _).mono ?_
            rintro o w9 ⟨rfl, hN9⟩
            obtain ⟨n0, n1, n2, n3, n4, n5, hfz⟩ := hN9.o.cells
            have f0 := hfz 0
            have f1 := hfz 1
            have f2 := hfz 2
            have f3 := hfz 3
            have f4 := hfz 4
            have f5 := hfz 5
            have H9 := Lib.hid hN9
            clear hN9 hfz
            go_wp2_with fail
            refine bodyPost_ret (v := trV (wrongT (kk : Int) 100)) (by simp [results, Tryz.results73, go_sem, trV, tokV, strV, wrongT, *]) rfl ?_
            exact ⟨by rw [HR.out], H9.out.end6 _ _ _ _ _ _⟩
          · have HR := Lib.hid (show res = wrongT (a : Int) 101 by rw [← HQ2.out, if_neg hd4])
            have HO := Lib.hid (hN7.digs hR hl hle4 hd4)
            clear hN7 HQ2 hd4
            generalize kk + overN l DD kk = k7 at *
            go_wp2_with fail
            refine HO.out.mono ?_
            rintro e w7' ⟨rfl, hN⟩
            clear HO
            have hG := hN.g
            have HX := Lib.hid (parse_some _ HP.out.1 HP.out.2.1 (by simp only [List.length_take, List.length_drop]; omega) _ hG)
            clear hG
            go_wp2_with fail
            refine HX.out.mono ?_
            rintro e w8 ⟨px, pv, rfl, hb8⟩
            have hN8 := hN.quiet hb8
            clear hb8 hN HX
            obtain ⟨-, -, c2, -⟩ := hN8.r.cells
            have HN := Lib.hid hN8
            clear hN8
            go_wp2_with fail
            refine (HN.out.wrong _ _).mono ?_
            rintro o w9 ⟨rfl, hN9⟩
            obtain ⟨n0, n1, n2, n3, n4, n5, hfz⟩ := hN9.o.cells
            have f0 := hfz 0
            have f1 := hfz 1
            have f2 := hfz 2
            have f3 := hfz 3
            have f4 := hfz 4
            have f5 := hfz 5
            have H9 := Lib.hid hN9
            clear hN9 hfz
            go_wp2_with fail
            refine bodyPost_ret (v := trV (wrongT (a : Int) 101)) (by simp [results, Tryz.results73, go_sem, trV, tokV, strV, wrongT, *]) rfl ?_
            exact ⟨by rw [HR.out], H9.out.end6 _ _ _ _ _ _⟩
      · have hlt := one_lt hp
        have HQ := Lib.hid (show (if overN l DD (k2 + 1) = 0 then wrongT ((k2 + 1 : Nat) : Int) 100 else numS2 nb l a k1 k2 true (k2 + 1 + overN l DD (k2 + 1))) = res by rw [← HP.out.2.2]; unfold numS1; rw [hp, if_pos rfl])
        have HO := Lib.hid (hN4.yes hR hl hp)
        clear hN4 hp
        go_wp2_with fail
        refine HO.out.mono ?_
        rintro e w5 ⟨rfl, hN5⟩
        clear HO
        by_cases hd3 : overN l DD (k2 + 1) = 0
        · have HR := Lib.hid (show res = wrongT ((k2 + 1 : Nat) : Int) 100 by rw [← HQ.out, if_pos hd3])
          have HO := Lib.hid (hN5.nodigs hR hl (by omega) hd3)
          clear hN5 HQ hd3
          generalize k2 + 1 = kk at *
          go_wp2_with fail
          refine HO.out.mono ?_
          rintro e w6 ⟨rfl, hN⟩
          clear HO
          obtain ⟨-, c1, -, -⟩ := hN.r.cells
          have HN := Lib.hid hN
          clear hN
          go_wp2_with fail
          refine (HN.out.wrong _ _).mono ?_
          rintro o w9 ⟨rfl, hN9⟩
          obtain ⟨n0, n1, n2, n3, n4, n5, hfz⟩ := hN9.o.cells
          have f0 := hfz 0
          have f1 := hfz 1
          have f2 := hfz 2
          have f3 := hfz 3
          have f4 := hfz 4
          have f5 := hfz 5
          have H9 := Lib.hid hN9
          clear hN9 hfz
          go_wp2_with fail
          refine bodyPost_ret (v := trV (wrongT (kk : Int) 100)) (by simp [results, Tryz.results73, go_sem, trV, tokV, strV, wrongT, *]) rfl ?_
          exact ⟨by rw [HR.out], H9.out.end6 _ _ _ _ _ _⟩
        · have hov := overN_le l DD (k2 + 1)
          have HO := Lib.hid (hN5.digs hR hl (by omega) hd3)
          obtain ⟨k3, hk3⟩ : ∃ x, x = k2 + 1 + overN l DD (k2 + 1) := ⟨_, rfl⟩
          have HQ1 := Lib.hid (show numS2 nb l a k1 k2 true k3 = res by rw [← HQ.out, if_neg hd3, hk3])
          have hle3' : k3 ≤ l.length := by omega
          rw [← hk3] at HO
          clear HQ hk3 hN5 hov hd3
          have HQ := HQ1
          clear HQ1
          go_wp2_with fail
          refine HO.out.mono ?_
          rintro e w6' ⟨rfl, hN⟩
          clear HO
          have hle3 := overN_le l DD k3
          cases hq : oneB l [101, 69] k3
          · have HQ2 := Lib.hid (show numS3 nb l a k1 k2 true k3 = res by rw [← HQ.out]; unfold numS2; rw [hq, if_neg Bool.false_ne_true])
            clear HQ
            go_wp2_with fail
            refine (hN.no hR hl hq).mono ?_
            rintro e w6 ⟨rfl, hN6⟩
            clear hN hq
            have hN := hN6
            clear hN6
            have HR := Lib.hid (show res = wrongT (a : Int) 101 by rw [← HQ2.out]; unfold numS3; rw [if_pos rfl])
            have hG := hN.g
            have HX := Lib.hid (parse_some _ HP.out.1 HP.out.2.1 (by simp only [List.length_take, List.length_drop]; omega) _ hG)
            clear hG
            go_wp2_with fail
            refine HX.out.mono ?_
            rintro e w8 ⟨px, pv, rfl, hb8⟩
            have hN8 := hN.quiet hb8
            clear hb8 hN HX
            obtain ⟨-, -, c2, -⟩ := hN8.r.cells
            have HN := Lib.hid hN8
            clear hN8
            go_wp2_with fail
            refine (HN.out.wrong _ _).mono ?_
            rintro o w9 ⟨rfl, hN9⟩
            obtain ⟨n0, n1, n2, n3, n4, n5, hfz⟩ := hN9.o.cells
            have f0 := hfz 0
            have f1 := hfz 1
            have f2 := hfz 2
            have f3 := hfz 3
            have f4 := hfz 4
            have f5 := hfz 5
            have H9 := Lib.hid hN9
            clear hN9 hfz
            go_wp2_with fail
            refine bodyPost_ret (v := trV (wrongT (a : Int) 101)) (by simp [results, Tryz.results73, go_sem, trV, tokV, strV, wrongT, *]) rfl ?_
            exact ⟨by rw [HR.out], H9.out.end6 _ _ _ _ _ _⟩
          · have hlt3 := one_lt hq
            have hle4 := oneN_le l [43, 45] (k3 + 1) (by omega)
            have HQ2 := Lib.hid (show (if overN l DD (k3 + 1 + oneN l [43, 45] (k3 + 1)) = 0 then wrongT ((k3 + 1 + oneN l [43, 45] (k3 + 1) : Nat) : Int) 100 else wrongT (a : Int) 101) = res by rw [← HQ.out]; unfold numS2; rw [hq, if_pos rfl])
            clear HQ
            go_wp2_with fail
            refine (hN.yes hR hl hq).mono ?_
            rintro e w6 ⟨rfl, hN6⟩
            clear hN hq
            have HO := Lib.hid (hN6.one hR hl [43, 45])
            clear hN6
            go_wp2_with fail
            refine HO.out.mono ?_
            generalize k3 + 1 + oneN l [43, 45] (k3 + 1) = kk at *
            generalize oneB l [43, 45] (k3 + 1) = bb at *
            rintro e w7 ⟨rfl, hN7⟩
            clear HO
            by_cases hd4 : overN l DD kk = 0
            · have HR := Lib.hid (show res = wrongT (kk : Int) 100 by rw [← HQ2.out, if_pos hd4])
              have HO := Lib.hid (hN7.nodigs hR hl hle4 hd4)
              clear hN7 HQ2 hd4
              go_wp2_with fail
              refine HO.out.mono ?_
              rintro e w8 ⟨rfl, hN⟩
              clear HO
              obtain ⟨-, c1, -, -⟩ := hN.r.cells
              have HN := Lib.hid hN
              clear hN
              go_wp2_with fail
              refine (HN.out.wrong _ _).mono ?_
              rintro o w9 ⟨rfl, hN9⟩
              obtain ⟨n0, n1, n2, n3, n4, n5, hfz⟩ := hN9.o.cells
              have f0 := hfz 0
              have f1 := hfz 1
              have f2 := hfz 2
              have f3 := hfz 3
              have f4 := hfz 4
              have f5 := hfz 5
              have H9 := Lib.hid hN9
              clear hN9 hfz
              go_wp2_with fail
              refine bodyPost_ret (v := trV (wrongT (kk : Int) 100)) (by simp [results, Tryz.results73, go_sem, trV, tokV, strV, wrongT, *]) rfl ?_
              exact ⟨by rw [HR.out], H9.out.end6 _ _ _ _ _ _⟩
            · have HR := Lib.hid (show res = wrongT (a : Int) 101 by rw [← HQ2.out, if_neg hd4])
              have HO := Lib.hid (hN7.digs hR hl hle4 hd4)
              clear hN7 HQ2 hd4
              generalize kk + overN l DD kk = k7 at *
              go_wp2_with fail
              refine HO.out.mono ?_
              rintro e w7' ⟨rfl, hN⟩
              clear HO
              have hG := hN.g
              have HX := Lib.hid (parse_some _ HP.out.1 HP.out.2.1 (by simp only [List.length_take, List.length_drop]; omega) _ hG)
              clear hG
              go_wp2_with fail
              refine HX.out.mono ?_
              rintro e w8 ⟨px, pv, rfl, hb8⟩
              have hN8 := hN.quiet hb8
              clear hb8 hN HX
              obtain ⟨-, -, c2, -⟩ := hN8.r.cells
              have HN := Lib.hid hN8
              clear hN8
              go_wp2_with fail
              refine (HN.out.wrong _ _).mono ?_
              rintro o w9 ⟨rfl, hN9⟩
              obtain ⟨n0, n1, n2, n3, n4, n5, hfz⟩ := hN9.o.cells
              have f0 := hfz 0
              have f1 := hfz 1
              have f2 := hfz 2
              have f3 := hfz 3
              have f4 := hfz 4
              have f5 := hfz 5
              have H9 := Lib.hid hN9
              clear hN9 hfz
              go_wp2_with fail
              refine bodyPost_ret (v := trV (wrongT (a : Int) 101)) (by simp [results, Tryz.results73, go_sem, trV, tokV, strV, wrongT, *]) rfl ?_
              exact ⟨by rw [HR.out], H9.out.end6 _ _ _ _ _ _⟩
end Go.Proofs.YtccmhhmdenfecaaGreatDoor
