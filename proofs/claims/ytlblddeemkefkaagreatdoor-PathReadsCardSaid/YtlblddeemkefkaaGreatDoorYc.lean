/- The plain law of PathAgain: what is parsed shows as a text that is not longer, and the same where no backslash stands. -/
import Derived.Test.YtlblddeemkefkaaGreatDoorYa
import Derived.Test.YtlblddeemkefkaaGreatDoorNh
namespace Go.Proofs.YtlblddeemkefkaaGreatDoor
set_option linter.unusedVariables false
set_option linter.unusedSimpArgs false
open Go.RowKit Go.Shelf
theorem enc_pos (r : Nat) : 1 ≤ (Lib.encodeRune (r : Int)).length := by
  unfold Lib.encodeRune
  rw [List.length_map]
  exact (Lib.encodeRuneZ_length (r : Int)).1
theorem enc_ne (r : Nat) (t : List UInt8) : Lib.encodeRune (r : Int) ++ t ≠ [] := by
  intro e
  have := congrArg List.length e
  rw [List.length_append, List.length_nil] at this
  have := enc_pos r
  omega
theorem decodeL_enc {r : Nat} (hr : RuneOk r) (rest : List UInt8) : Lib.decodeL (Lib.encodeRune (r : Int) ++ rest) = (r, (Lib.encodeRune (r : Int)).length) := by
  obtain ⟨c, t, e, -, -, k3, hd, hn⟩ := enc_done hr rest
  rw [e]
  show Lib.decodeL (c :: (t ++ rest)) = _
  have h := dec_done (bat_lt (c :: (t ++ rest)) 0) (bat_lt (c :: (t ++ rest)) 1) (bat_lt (c :: (t ++ rest)) 2) (bat_lt (c :: (t ++ rest)) 3) hd
  rw [Lib.decodeL_N]
  refine h.trans ?_
  rw [hn]
  exact Prod.ext rfl k3
theorem validD_enc {r : Nat} (hr : RuneOk r) (rest : List UInt8) : Lib.validD (Lib.encodeRune (r : Int) ++ rest) = Lib.validD rest := by
  rw [Lib.validD_step _ (enc_ne r rest), decodeL_enc hr rest, if_neg, List.drop_left]
  rintro ⟨h1, h2⟩
  dsimp only at h1 h2
  subst h1
  revert h2
  decide +kernel
theorem quoD_enc {r : Nat} (hr : RuneOk r) (f : Nat) (rest : List UInt8) : quoD (f + 1) (Lib.encodeRune (r : Int) ++ rest) = quoR r ++ quoD f rest := by
  rw [quoD, if_neg (enc_ne r rest), decodeL_enc hr rest, List.drop_left]
/-- The bytes of runes; their spelling. -/
def encs (rs : List Nat) : List UInt8 := rs.flatMap fun (r : Nat) => Lib.encodeRune (r : Int)
def quos (rs : List Nat) : List UInt8 := rs.flatMap quoR
theorem encs_valid : ∀ rs : List Nat, (∀ r ∈ rs, RuneOk r) → Lib.validD (encs rs) = true
  | [], _ => rfl
  | r :: rs, h => by
    show Lib.validD (Lib.encodeRune (r : Int) ++ encs rs) = true
    rw [validD_enc (h r (by simp))]
    exact encs_valid rs fun x hx => h x (by simp [hx])
theorem quoD_encs : ∀ (rs : List Nat) (f : Nat), (∀ r ∈ rs, RuneOk r) → (encs rs).length ≤ f → quoD f (encs rs) = quos rs
  | [], 0, _, _ => rfl
  | [], f + 1, _, _ => by show quoD (f + 1) [] = []; simp [quoD]
  | r :: rs, f, h, hf => by
    have h1 := enc_pos r
    have hl : (encs (r :: rs)).length = (Lib.encodeRune (r : Int)).length + (encs rs).length := List.length_append
    obtain ⟨f, rfl⟩ : ∃ k, f = k + 1 := ⟨f - 1, by omega⟩
    show quoD (f + 1) (Lib.encodeRune (r : Int) ++ encs rs) = quoR r ++ quos rs
    rw [quoD_enc (h r (by simp)), quoD_encs rs f (fun x hx => h x (by simp [hx])) (by omega)]
theorem quoL_encs (rs : List Nat) (h : ∀ r ∈ rs, RuneOk r) : quoL' (encs rs) = 34 :: (quos rs ++ [34]) := by
  rw [quoL_eq, quoD_encs rs _ h (Nat.le_refl _)]
theorem esc_all : ∀ n : Fin 256, 0 ≤ escV (UInt8.ofNat n.val) → escV (UInt8.ofNat n.val) < 128 ∧ (quoR (escV (UInt8.ofNat n.val)).toNat).length ≤ 2 := by decide +kernel
theorem plain_all : ∀ r : Fin 128, 32 ≤ r.val → r.val ≠ 34 → r.val ≠ 92 → ¬ (0 ≤ qIdx r.val ∧ r.val ≠ 47) := by decide +kernel
/-- An escape denotes a rune whose spelling is not longer. -/
theorem rEsc_inv {l b : List UInt8} {m : Nat} (h : rEsc l = .ok (b, m)) : m ≤ l.length ∧ ∃ r, RuneOk r ∧ b = Lib.encodeRune (r : Int) ∧ (quoR r).length ≤ m + 1 := by
  refine ⟨(rEsc_len h).2.1, ?_⟩
  cases l with
  | nil => cases h
  | cons c t =>
    unfold rEsc at h
    dsimp only at h
    by_cases he : 0 ≤ escV c
    · rw [if_pos he] at h
      cases h
      have hc : UInt8.ofNat c.toNat = c := by simp
      have ht := esc_all ⟨c.toNat, c.toNat_lt⟩
      dsimp only at ht
      rw [hc] at ht
      obtain ⟨h1, h2⟩ := ht he
      exact ⟨(escV c).toNat, .inl (by omega), by rw [enc_one (by omega)], h2⟩
    rw [if_neg he] at h
    by_cases h117 : c ≠ 117
    · rw [if_pos h117] at h; cases h
    rw [if_neg h117] at h
    cases hF : rF false 4 0 t 0 with
    | error j => rw [hF] at h; cases h
    | ok n =>
      rw [hF] at h
      dsimp only at h
      have hn := rF_first hF
      by_cases hs : 55296 ≤ n ∧ n < 56320
      · rw [if_pos hs] at h
        cases ht : t.drop 4 with
        | nil => rw [ht] at h; cases h
        | cons c1 t1 =>
          rw [ht] at h
          dsimp only at h
          by_cases h92 : c1 ≠ 92
          · rw [if_pos h92] at h; cases h
          rw [if_neg h92] at h
          cases t1 with
          | nil => cases h
          | cons c2 t2 =>
            dsimp only at h
            by_cases hu : c2 ≠ 117
            · rw [if_pos hu] at h; cases h
            rw [if_neg hu] at h
            cases hG : rF true 4 0 t2 0 with
            | error j => rw [hG] at h; cases h
            | ok k =>
              rw [hG] at h
              dsimp only at h
              have hk := rF_second hG
              cases h
              refine ⟨(65536 + 1024 * (n - 55296) + k - 56320).toNat, .inr (by omega), ?_, ?_⟩
              · rw [Int.toNat_of_nonneg (by omega)]
              · have := quoR_len (65536 + 1024 * (n - 55296) + k - 56320).toNat
                omega
      · rw [if_neg hs] at h
        cases h
        refine ⟨n.toNat, ?_, by rw [Int.toNat_of_nonneg (by omega)], quoR_len n.toNat⟩
        unfold RuneOk
        omega
theorem rWrong_err {l : List UInt8} {i : Int} {j : Nat} {e : Int} (he : e ≠ 0) : (rWrong l i j e).2.2.2 ≠ 0 := by
  unfold rWrong
  split
  · show (3 : Int) ≠ 0
    decide
  · exact he
/-- A plain encoding is its rune's own spelling. -/
theorem rune_inv {c : UInt8} {t : List UInt8} (h1 : c ≠ 34) (h2 : ¬ c.toNat < 32) (h3 : c ≠ 92) (hd : DoneU (c :: t).length (bat (c :: t) 0) (bat (c :: t) 1) (bat (c :: t) 2) (bat (c :: t) 3)) :
    ∃ r, RuneOk r ∧ (c :: t).take (longB (bat (c :: t) 0)) = Lib.encodeRune (r : Int) ∧ quoR r = Lib.encodeRune (r : Int) := by
  have h := dec_done (bat_lt (c :: t) 0) (bat_lt (c :: t) 1) (bat_lt (c :: t) 2) (bat_lt (c :: t) 3) hd
  have hdl : Lib.decodeL (c :: t) = (runeN (bat (c :: t) 0) (bat (c :: t) 1) (bat (c :: t) 2) (bat (c :: t) 3), longB (bat (c :: t) 0)) := by
    rw [Lib.decodeL_N]
    exact h
  have hne := rune_ne (bat_lt (c :: t) 0) hd
  have henc := Lib.encode_decode (c :: t) (by simp) (by rw [hdl]; rintro ⟨a, b⟩; exact hne ⟨a, by dsimp only at b; omega⟩)
  have hok := decL_valid (c :: t)
  rw [hdl] at henc hok
  dsimp only at henc hok
  generalize runeN (bat (c :: t) 0) (bat (c :: t) 1) (bat (c :: t) 2) (bat (c :: t) 3) = r at *
  refine ⟨r, hok, henc.symm, ?_⟩
  have hlong : 1 ≤ longB (bat (c :: t) 0) := hd.1
  have hc : r < 128 → c.toNat = r := by
    intro hr
    rw [enc_one hr] at henc
    obtain ⟨m, hm⟩ : ∃ m, longB (bat (c :: t) 0) = m + 1 := ⟨_, (Nat.sub_add_cancel hlong).symm⟩
    rw [hm, List.take_succ_cons] at henc
    have := (List.cons.inj henc).1
    rw [← this]
    exact u8_small (by omega)
  have hr32 : ¬ r < 32 := fun h => h2 (by rw [hc (by omega)]; exact h)
  unfold quoR
  rw [if_neg, if_neg hr32]
  intro hq
  by_cases hr : r < 128
  · have hcr := hc hr
    exact plain_all ⟨r, hr⟩ (by dsimp only; omega) (fun e => h1 (UInt8.toNat.inj (by rw [hcr]; exact e))) (fun e => h3 (UInt8.toNat.inj (by rw [hcr]; exact e))) hq
  · have := hq.1
    unfold qIdx at this
    rw [if_neg hr] at this
    omega
theorem rU_inv : ∀ (f : Nat) (out : List UInt8) (i : Int) (l o : List UInt8) (n b : Int), rU f out i l = (o, n, b, 0) →
    ∃ rs : List Nat, (∀ r ∈ rs, RuneOk r) ∧ o = out ++ encs rs ∧ i + (quos rs).length + 1 ≤ n ∧ n ≤ i + l.length ∧ (92 ∉ l → n = i + (quos rs).length + 1 ∧ l.take ((quos rs).length + 1) = quos rs ++ [34])
  | 0, _, _, _, _, _, _, h => by rw [rU] at h; cases h
  | _ + 1, _, _, [], _, _, _, h => by rw [rU] at h; cases h
  | f + 1, out, i, c :: t, o, n, b, h => by
    rw [rU] at h
    by_cases h34 : c = 34
    · rw [if_pos h34] at h
      cases h
      refine ⟨[], by simp, by simp [encs], by simp [quos], by simp only [List.length_cons]; omega, fun _ => ⟨by simp [quos], by simp [quos, h34]⟩⟩
    rw [if_neg h34] at h
    by_cases h32 : c.toNat < 32
    · rw [if_pos h32] at h; cases h
    rw [if_neg h32] at h
    by_cases h92 : c = 92
    · rw [if_pos h92] at h
      cases hE : rEsc t with
      | error j =>
        rw [hE] at h
        dsimp only at h
        exact absurd (congrArg (fun x => x.2.2.2) h) (rWrong_err (by decide))
      | ok bm =>
        obtain ⟨b', m⟩ := bm
        rw [hE] at h
        dsimp only at h
        obtain ⟨hm, r, hr, rfl, hq⟩ := rEsc_inv hE
        obtain ⟨rs, g1, g2, g3, g4, -⟩ := rU_inv f _ _ _ o n b h
        have hql : (quos (r :: rs)).length = (quoR r).length + (quos rs).length := List.length_append
        rw [List.length_drop] at g4
        refine ⟨r :: rs, ?_, ?_, ?_, ?_, fun hn => absurd (by rw [h92]; simp) hn⟩
        · intro x hx
          rcases List.mem_cons.1 hx with rfl | hx
          · exact hr
          · exact g1 x hx
        · rw [g2, List.append_assoc]; rfl
        · rw [hql]; push_cast; omega
        · rw [List.length_cons]; push_cast; omega
    rw [if_neg h92] at h
    by_cases hd : DoneU (c :: t).length (bat (c :: t) 0) (bat (c :: t) 1) (bat (c :: t) 2) (bat (c :: t) 3)
    · rw [if_pos hd] at h
      obtain ⟨r, hr, e1, e2⟩ := rune_inv h34 h32 h92 hd
      have hlong : longB (bat (c :: t) 0) ≤ (c :: t).length := hd.2.1
      have hlen : (Lib.encodeRune (r : Int)).length = longB (bat (c :: t) 0) := by rw [← e1, List.length_take]; omega
      obtain ⟨rs, g1, g2, g3, g4, g5⟩ := rU_inv f _ _ _ o n b h
      have hql : (quos (r :: rs)).length = (quoR r).length + (quos rs).length := List.length_append
      rw [List.length_drop] at g4
      refine ⟨r :: rs, ?_, ?_, ?_, ?_, ?_⟩
      · intro x hx
        rcases List.mem_cons.1 hx with rfl | hx
        · exact hr
        · exact g1 x hx
      · rw [g2, e1, List.append_assoc]; rfl
      · rw [hql, e2]; push_cast; omega
      · omega
      · intro hn
        obtain ⟨k1, k2⟩ := g5 fun hx => hn (List.mem_of_mem_drop hx)
        refine ⟨by rw [hql, e2]; push_cast; omega, ?_⟩
        have es : c :: t = Lib.encodeRune (r : Int) ++ (c :: t).drop (longB (bat (c :: t) 0)) := by rw [← e1, List.take_append_drop]
        have : (quos (r :: rs)).length + 1 = (Lib.encodeRune (r : Int)).length + ((quos rs).length + 1) := by rw [hql, e2]; omega
        rw [this]
        conv => lhs; rw [es]
        rw [List.take_length_add_append, k2]
        show _ = (quoR r ++ quos rs) ++ [34]
        rw [e2, List.append_assoc]
    · rw [if_neg hd] at h
      exact absurd (congrArg (fun x => x.2.2.2) h) (rWrong_err (by decide))
/-- A literal that reads denotes a valid text; its own spelling is not longer, and the same where no backslash stands. -/
theorem unq_inv {l k : List UInt8} {n b : Int} (h : unqM l = (k, n, b, 0)) : Lib.validD k = true ∧ ((quoL' k).length : Int) ≤ n ∧ n ≤ l.length ∧ (92 ∉ l → n = (quoL' k).length ∧ l.take (quoL' k).length = quoL' k) := by
  rw [← rUnq_eq] at h
  cases l with
  | nil => cases h
  | cons c t =>
    unfold rUnq at h
    dsimp only at h
    by_cases h34 : c ≠ 34
    · rw [if_pos h34] at h; cases h
    rw [if_neg h34] at h
    have hc : c = 34 := by
      rcases Classical.em (c = 34) with e | e
      · exact e
      · exact absurd e h34
    obtain ⟨rs, g1, g2, g3, g4, g5⟩ := rU_inv _ _ _ _ _ _ _ h
    rw [List.nil_append] at g2
    subst g2
    have hq := quoL_encs rs g1
    have hl : (quoL' (encs rs)).length = (quos rs).length + 2 := by rw [hq]; simp
    refine ⟨encs_valid rs g1, by rw [hl]; push_cast; omega, by rw [List.length_cons]; push_cast; omega, fun hn => ?_⟩
    obtain ⟨k1, k2⟩ := g5 fun hx => hn (List.mem_cons_of_mem _ hx)
    refine ⟨by rw [hl]; push_cast; omega, ?_⟩
    rw [hl, show (quos rs).length + 2 = (quos rs).length + 1 + 1 by omega, List.take_succ_cons, k2, hq, hc]
end Go.Proofs.YtlblddeemkefkaaGreatDoor
