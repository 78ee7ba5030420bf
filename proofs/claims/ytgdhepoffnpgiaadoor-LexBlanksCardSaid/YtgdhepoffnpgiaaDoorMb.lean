/- The walk of accordionlaw10.works: written by wip/gen/mb.py. -/
import Derived.Test.YtgdhepoffnpgiaaDoorMa
import Derived.Laws.OwnMore
namespace Go.Proofs.YtgdhepoffnpgiaaDoor
set_option linter.unusedVariables false
set_option linter.unusedSimpArgs false
open Go.RowKit Go.Shelf
theorem gives_yes (s : List UInt8) (a : Int) (t : Tok) (h : giveB s a t = true) (hl : s.length ≤ 1073741824) {w0 w : World} (hW : WG w0 w) : Calls Tryd.prog 19 #[strV s, .int .i64 a, tokV t] w fun e w' => e = .returned (.bool true) ∧ WG w0 w' := by
  have := gives_any s a t w0 w hl hW
  rwa [h] at this
theorem fails_yes (s : List UInt8) (a p x : Int) (h : failB s a p x = true) (hl : s.length ≤ 1073741824) {w0 w : World} (hW : WG w0 w) : Calls Tryd.prog 16 #[strV s, .int .i64 a, .int .i64 p, .int .i64 x] w fun e w' => e = .returned (.bool true) ∧ WG w0 w' := by
  have := fails_any s a p x w0 w hl hW
  rwa [h] at this
def wkToks : List Tok := [⟨3, 0, 1, 0, 0, []⟩, ⟨10, 1, 2, 1, 0, []⟩, ⟨5, 2, 3, 0, 0, []⟩, ⟨4, 3, 4, 0, 0, []⟩]
theorem wk_all : allM [91, 49, 44, 93] = (wkToks, 0, 0) := by decide +kernel
set_option maxHeartbeats 8000000 in
set_option maxRecDepth 100000 in
theorem works_any (w0 w : World) (hW : WG w0 w) : Calls Tryd.prog 13 #[] w fun e w' => e = .returned (.bool true) ∧ WG w0 w' := by
  have hlen : ∀ s : List UInt8, s.length ≤ 100 → s.length ≤ 1073741824 := fun s h => by omega
  have H0 := Lib.hid hW
  clear hW
  go_enter Tryd.func13, Tryd.ntmps13
  go_wp2_with fail
  refine (gives_yes [32, 123, 34, 97, 34, 58, 49, 125] 0 ⟨1, 1, 2, 0, 0, []⟩ (by decide +kernel) (hlen _ (by decide)) H0.out).mono ?_
  rintro e w1 ⟨rfl, h1⟩
  have H1 := Lib.hid h1
  clear h1 H0
  go_wp2_with fail
  refine (gives_yes [32, 123, 34, 97, 34, 58, 49, 125] 2 ⟨12, 2, 5, 0, 0, [97]⟩ (by decide +kernel) (hlen _ (by decide)) H1.out).mono ?_
  rintro e w2 ⟨rfl, h2⟩
  have H2 := Lib.hid h2
  clear h2 H1
  go_wp2_with fail
  refine (gives_yes [32, 123, 34, 97, 34, 58, 49, 125] 5 ⟨6, 5, 6, 0, 0, []⟩ (by decide +kernel) (hlen _ (by decide)) H2.out).mono ?_
  rintro e w3 ⟨rfl, h3⟩
  have H3 := Lib.hid h3
  clear h3 H2
  go_wp2_with fail
  refine (gives_yes [32, 123, 34, 97, 34, 58, 49, 125] 8 ⟨0, 8, 8, 0, 0, []⟩ (by decide +kernel) (hlen _ (by decide)) H3.out).mono ?_
  rintro e w4 ⟨rfl, h4⟩
  have H4 := Lib.hid h4
  clear h4 H3
  go_wp2_with fail
  refine (gives_yes [45, 49, 50, 32] 0 ⟨10, 0, 3, (-12), 0, []⟩ (by decide +kernel) (hlen _ (by decide)) H4.out).mono ?_
  rintro e w5 ⟨rfl, h5⟩
  have H5 := Lib.hid h5
  clear h5 H4
  go_wp2_with fail
  refine (gives_yes [49, 56, 52, 52, 54, 55, 52, 52, 48, 55, 51, 55, 48, 57, 53, 53, 49, 54, 49, 53] 0 ⟨11, 0, 20, 0, 18446744073709551615, []⟩ (by decide +kernel) (hlen _ (by decide)) H5.out).mono ?_
  rintro e w6 ⟨rfl, h6⟩
  have H6 := Lib.hid h6
  clear h6 H5
  go_wp2_with fail
  refine (gives_yes [45, 48] 0 ⟨10, 0, 2, 0, 0, []⟩ (by decide +kernel) (hlen _ (by decide)) H6.out).mono ?_
  rintro e w7 ⟨rfl, h7⟩
  have H7 := Lib.hid h7
  clear h7 H6
  go_wp2_with fail
  refine (fails_yes [116, 114, 117, 101] 1 1 100 (by decide +kernel) (hlen _ (by decide)) H7.out).mono ?_
  rintro e w8 ⟨rfl, h8⟩
  have H8 := Lib.hid h8
  clear h8 H7
  go_wp2_with fail
  refine (gives_yes [48, 49] 0 ⟨10, 0, 1, 0, 0, []⟩ (by decide +kernel) (hlen _ (by decide)) H8.out).mono ?_
  rintro e w9 ⟨rfl, h9⟩
  have H9 := Lib.hid h9
  clear h9 H8
  go_wp2_with fail
  refine (fails_yes [49, 46, 53] 0 0 101 (by decide +kernel) (hlen _ (by decide)) H9.out).mono ?_
  rintro e w10 ⟨rfl, h10⟩
  have H10 := Lib.hid h10
  clear h10 H9
  go_wp2_with fail
  refine (fails_yes [49, 46] 0 2 100 (by decide +kernel) (hlen _ (by decide)) H10.out).mono ?_
  rintro e w11 ⟨rfl, h11⟩
  have H11 := Lib.hid h11
  clear h11 H10
  go_wp2_with fail
  refine (fails_yes [49, 101] 0 2 100 (by decide +kernel) (hlen _ (by decide)) H11.out).mono ?_
  rintro e w12 ⟨rfl, h12⟩
  have H12 := Lib.hid h12
  clear h12 H11
  go_wp2_with fail
  refine (fails_yes [45] 0 1 100 (by decide +kernel) (hlen _ (by decide)) H12.out).mono ?_
  rintro e w13 ⟨rfl, h13⟩
  have H13 := Lib.hid h13
  clear h13 H12
  go_wp2_with fail
  refine (fails_yes [49, 56, 52, 52, 54, 55, 52, 52, 48, 55, 51, 55, 48, 57, 53, 53, 49, 54, 49, 54] 0 0 101 (by decide +kernel) (hlen _ (by decide)) H13.out).mono ?_
  rintro e w14 ⟨rfl, h14⟩
  have H14 := Lib.hid h14
  clear h14 H13
  go_wp2_with fail
  refine (fails_yes [110, 117, 108] 0 3 100 (by decide +kernel) (hlen _ (by decide)) H14.out).mono ?_
  rintro e w15 ⟨rfl, h15⟩
  have H15 := Lib.hid h15
  clear h15 H14
  go_wp2_with fail
  refine (fails_yes [110, 117, 108, 120] 0 3 100 (by decide +kernel) (hlen _ (by decide)) H15.out).mono ?_
  rintro e w16 ⟨rfl, h16⟩
  have H16 := Lib.hid h16
  clear h16 H15
  go_wp2_with fail
  refine (fails_yes [34, 97] 0 2 3 (by decide +kernel) (hlen _ (by decide)) H16.out).mono ?_
  rintro e w17 ⟨rfl, h17⟩
  have H17 := Lib.hid h17
  clear h17 H16
  go_wp2_with fail
  refine (fails_yes [97] 0 0 100 (by decide +kernel) (hlen _ (by decide)) H17.out).mono ?_
  rintro e w18 ⟨rfl, h18⟩
  have H18 := Lib.hid h18
  clear h18 H17
  go_wp2_with fail
  refine (fails_yes [97] 2 0 6 (by decide +kernel) (hlen _ (by decide)) H18.out).mono ?_
  rintro e w19 ⟨rfl, h19⟩
  have H19 := Lib.hid h19
  clear h19 H18
  have HA := Lib.hid (all_any [91, 49, 44, 93] w19 H19.out.g H19.out.gw (hlen _ (by decide)))
  rw [wk_all] at HA
  go_wp2_with fail
  refine HA.out.mono ?_
  rintro e wl ⟨v, rfl, hT, hb⟩
  obtain ⟨g, cap, hv, hcap⟩ : ∃ g cap, v = .slice (some ⟨g, 0, none⟩) 4 cap ∧ 4 ≤ cap ∧ cap ≤ maxLen := by
    rcases hT.2 with ⟨-, h⟩ | ⟨g, cap, cur, h, -, -, h1, h2, -⟩
    · cases h
    · exact ⟨g, cap, h, h1, h2⟩
  subst hv
  obtain ⟨hc1, hc2⟩ := hcap
  unfold maxLen at hc2
  have hat := fun j hj => World.ownsRow.cellAt hT j hj
  have k0 : wl.cell? ⟨g, 0, none⟩ = some (.int .i64 3) := hat 0 (by decide)
  have k6 : wl.cell? ⟨g, 6, none⟩ = some (.int .i64 10) := hat 6 (by decide)
  have k7 : wl.cell? ⟨g, 7, none⟩ = some (.int .i64 1) := hat 7 (by decide)
  have k8 : wl.cell? ⟨g, 8, none⟩ = some (.int .i64 2) := hat 8 (by decide)
  have k9 : wl.cell? ⟨g, 9, none⟩ = some (.int .i64 1) := hat 9 (by decide)
  have k10 : wl.cell? ⟨g, 10, none⟩ = some (.int .u64 0) := hat 10 (by decide)
  have k11 : wl.cell? ⟨g, 11, none⟩ = some (.string ⟨#[]⟩) := hat 11 (by decide)
  have k12 : wl.cell? ⟨g, 12, none⟩ = some (.int .i64 5) := hat 12 (by decide)
  have k18 : wl.cell? ⟨g, 18, none⟩ = some (.int .i64 4) := hat 18 (by decide)
  have HB := Lib.hid (H19.out.next hb)
  clear hat hT hb HA
  go_wp2_with fail
  go_returns
  exact ⟨rfl, HB.out⟩
end Go.Proofs.YtgdhepoffnpgiaaDoor
