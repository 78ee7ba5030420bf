/- The walk of accordionlaw08.PathAll: written by wip/gen/pa.py. -/
import Derived.Test.YtlblddeemkefkaaGreatDoorSo
import Derived.Test.YtlblddeemkefkaaGreatDoorSp
namespace Go.Proofs.YtlblddeemkefkaaGreatDoor
set_option linter.unusedVariables false
set_option linter.unusedSimpArgs false
section
open Go.RowKit
theorem wp_reg_via {P : Program} {c : Code} {Q : Exit → Act → World → Prop} {a0 : Act} {w0 : World} (ds : List Tmp) (S : (Tmp → Value) → Prop) (h : c.wp P (fun e a' w' => e = .normal ∧ ∃ f, a' = puts f a0 ds ∧ S f ∧ Below w0.heap.size w0 w') a0 w0)
    (hk : ∀ (f : Tmp → Value) (w' : World), Below w0.heap.size w0 w' → S f → Q .normal (puts f a0 ds) w') : c.wp P Q a0 w0 := by
  refine wp_mono h ?_
  rintro e a w ⟨rfl, f, rfl, hs, hb⟩
  exact hk f w hb hs
def blkT (X : DT) (b : Nat) (s : Bool) (w : World) : Prop := match s with
  | false => w.heap[b]? = some (.cells zCells 38 (0, 0))
  | true => ∃ kd nn uu s A m c A' m' c' bs, w.heap[b]? = some (.cells #[.int .i64 kd, .int .i64 nn, .int .u64 uu, .string s, .slice A m c, .slice A' m' c'] 38 (0, 0)) ∧ NRep w X [.int .i64 kd, .int .i64 nn, .int .u64 uu, .string s, .slice A m c, .slice A' m' c'] bs
theorem blkT_st (X : DT) : ∀ (b : Nat) (s : Bool) (w w' : World), b < w.heap.size → Below w.heap.size w w' → blkT X b s w → blkT X b s w' := by
  intro b s w w' hb hB
  unfold blkT
  split
  · intro h
    exact below_row h hB
  · rintro ⟨kd, nn, uu, s, A, m, c, A', m', c', bs, h1, h2⟩
    exact ⟨kd, nn, uu, s, A, m, c, A', m', c', bs, below_row h1 hB, h2.below hB⟩
def pa7 (P3 i : Nat) (kd nn u : Int) (s : List UInt8) (ks : List (List UInt8)) (l : List DT) (A1 : Option Addr) (c1 : Nat) (A2 : Option Addr) (c2 : Nat) : Posts := fun b t v w => match t with
  | 3 => v = .pointer (some ⟨P3, 0, none⟩)
  | 4 => v = .int .i64 (i : Nat)
  | 22 => v = .agg #[.int .i64 kd, .int .i64 nn, .int .u64 u, .string ⟨s.toArray⟩, .slice A1 ks.length c1, .slice A2 l.length c2]
  | 23 => v = .int .i64 (i : Nat)
  | 24 => v = .agg #[.string ⟨#[]⟩, .int .i64 (i : Nat), .bool false]
  | 25 => ∃ g', v = .slice (some ⟨g', 0, none⟩) 1 1 ∧ g' ≠ b ∧ w.heap[g']? = some (.cells #[.string ⟨#[]⟩, .int .i64 (i : Nat), .bool false] 50 (0, 0))
  | 26 => SVp w (kidD (.mk kd nn u s ks l) i) 0 b v
  | 21 => SVp w (kidD (.mk kd nn u s ks l) i) 0 b v
  | 27 => NVp w (kidD (.mk kd nn u s ks l) i) b v
  | 28 => v = .int .i64 0
  | 5 => v = .pointer (some ⟨b, 0, none⟩)
  | 6 => v = .int .i64 0
  | _ => True
theorem pa7_st (P3 i : Nat) (kd nn u : Int) (s : List UInt8) (ks : List (List UInt8)) (l : List DT) (A1 : Option Addr) (c1 : Nat) (A2 : Option Addr) (c2 : Nat) : ∀ (b : Nat) (t : Tmp) (v : Value) (w w' : World), ExtB b w w' → pa7 P3 i kd nn u s ks l A1 c1 A2 c2 b t v w → pa7 P3 i kd nn u s ks l A1 c1 A2 c2 b t v w' := by
  intro b t v w w' hE
  unfold pa7
  split
  · exact id
  · exact id
  · exact id
  · exact id
  · exact id
  · rintro ⟨g, h1, h2, h3⟩
    exact ⟨g, h1, h2, stay hE h3 h2⟩
  · exact fun h => h.ext hE
  · exact fun h => h.ext hE
  · exact fun h => h.ext hE
  · exact id
  · exact id
  · exact id
  · exact id
def pa8 (P3 i : Nat) (kd nn u : Int) (s : List UInt8) (ks : List (List UInt8)) (l : List DT) (A1 : Option Addr) (c1 : Nat) (A2 : Option Addr) (c2 : Nat) (P5 : Nat) (kd' nn' uu' : Int) (s' : ByteArray) (A' : Option Addr) (m' c' : Nat) (A2' : Option Addr) (m2' c2' : Nat) (g og : Nat) (k0 k1 k2 : Int) (k3 : ByteArray) (k4 : Option Addr) (k5 k6 : Nat) (k7 : Option Addr) (k8 k9 : Nat) : Posts := fun b t v w => match t with
  | 3 => v = .pointer (some ⟨P3, 0, none⟩)
  | 4 => v = .int .i64 (i : Nat)
  | 5 => v = .pointer (some ⟨P5, 0, none⟩)
  | 6 => v = .int .i64 0
  | 29 => v = .int .i64 0
  | 30 => v = .bool false
  | 31 => v = .bool false
  | 32 => v = .agg #[.int .i64 kd', .int .i64 nn', .int .u64 uu', .string s', .slice A' m' c', .slice A2' m2' c2']
  | 33 => v = .pointer (some ⟨P3, 5, none⟩)
  | 34 => v = .slice (some ⟨g, og, none⟩) l.length c2
  | 35 => v = .int .i64 (i : Nat)
  | 36 => v = .pointer (some ⟨g, og + i * 6, none⟩)
  | 37 => v = .agg #[.int .i64 k0, .int .i64 k1, .int .u64 k2, .string k3, .slice k4 k5 k6, .slice k7 k8 k9]
  | 38 => v = .bool true
  | 39 => v = .bool false
  | 40 => v = .bool false
  | _ => True
theorem pa8_st (P3 i : Nat) (kd nn u : Int) (s : List UInt8) (ks : List (List UInt8)) (l : List DT) (A1 : Option Addr) (c1 : Nat) (A2 : Option Addr) (c2 : Nat) (P5 : Nat) (kd' nn' uu' : Int) (s' : ByteArray) (A' : Option Addr) (m' c' : Nat) (A2' : Option Addr) (m2' c2' : Nat) (g og : Nat) (k0 k1 k2 : Int) (k3 : ByteArray) (k4 : Option Addr) (k5 k6 : Nat) (k7 : Option Addr) (k8 k9 : Nat) : ∀ (b : Nat) (t : Tmp) (v : Value) (w w' : World), ExtB b w w' → pa8 P3 i kd nn u s ks l A1 c1 A2 c2 P5 kd' nn' uu' s' A' m' c' A2' m2' c2' g og k0 k1 k2 k3 k4 k5 k6 k7 k8 k9 b t v w → pa8 P3 i kd nn u s ks l A1 c1 A2 c2 P5 kd' nn' uu' s' A' m' c' A2' m2' c2' g og k0 k1 k2 k3 k4 k5 k6 k7 k8 k9 b t v w' := by
  intro b t v w w' hE
  unfold pa8
  split
  · exact id
  · exact id
  · exact id
  · exact id
  · exact id
  · exact id
  · exact id
  · exact id
  · exact id
  · exact id
  · exact id
  · exact id
  · exact id
  · exact id
  · exact id
  · exact id
  · exact id
def pa10a (P3 i : Nat) (nn u : Int) (s : List UInt8) (ks : List (List UInt8)) (l : List DT) (A1 : Option Addr) (c1 : Nat) (A2 : Option Addr) (c2 : Nat) (g og : Nat) (k0 k1 k2 : Int) (k3 : ByteArray) (k4 : Option Addr) (k5 k6 : Nat) (k7 : Option Addr) (k8 k9 : Nat) (gk ok : Nat) (kx : ByteArray) : Posts := fun b t v w => match t with
  | 3 => v = .pointer (some ⟨P3, 0, none⟩)
  | 4 => v = .int .i64 (i : Nat)
  | 41 => v = .pointer (some ⟨P3, 0, none⟩)
  | 42 => v = .int .i64 17
  | 43 => v = .bool true
  | 44 => v = .bool true
  | 45 => v = .agg #[.int .i64 17, .int .i64 nn, .int .u64 u, .string ⟨s.toArray⟩, .slice A1 ks.length c1, .slice A2 l.length c2]
  | 46 => v = .pointer (some ⟨P3, 5, none⟩)
  | 47 => v = .slice (some ⟨g, og, none⟩) l.length c2
  | 48 => v = .int .i64 (i : Nat)
  | 49 => v = .pointer (some ⟨g, og + i * 6, none⟩)
  | 50 => v = .agg #[.int .i64 k0, .int .i64 k1, .int .u64 k2, .string k3, .slice k4 k5 k6, .slice k7 k8 k9]
  | 51 => v = .pointer (some ⟨P3, 4, none⟩)
  | 52 => v = .slice (some ⟨gk, ok, none⟩) ks.length c1
  | 53 => v = .int .i64 (i : Nat)
  | 54 => v = .pointer (some ⟨gk, ok + i, none⟩)
  | 55 => v = .string kx
  | 56 => v = .agg #[.string kx, .int .i64 0, .bool true]
  | 57 => ∃ g', v = .slice (some ⟨g', 0, none⟩) 1 1 ∧ g' ≠ b ∧ w.heap[g']? = some (.cells #[.string kx, .int .i64 0, .bool true] 50 (0, 0))
  | 58 => v = .bool true
  | 59 => v = .bool false
  | 60 => v = .bool false
  | 61 => v = .bool false
  | 62 => v = .pointer (some ⟨P3, 0, none⟩)
  | 63 => v = .int .i64 17
  | 64 => v = .bool false
  | 65 => v = .bool false
  | 72 => v = .bool false
  | 73 => v = .bool false
  | _ => True
theorem pa10a_st (P3 i : Nat) (nn u : Int) (s : List UInt8) (ks : List (List UInt8)) (l : List DT) (A1 : Option Addr) (c1 : Nat) (A2 : Option Addr) (c2 : Nat) (g og : Nat) (k0 k1 k2 : Int) (k3 : ByteArray) (k4 : Option Addr) (k5 k6 : Nat) (k7 : Option Addr) (k8 k9 : Nat) (gk ok : Nat) (kx : ByteArray) : ∀ (b : Nat) (t : Tmp) (v : Value) (w w' : World), ExtB b w w' → pa10a P3 i nn u s ks l A1 c1 A2 c2 g og k0 k1 k2 k3 k4 k5 k6 k7 k8 k9 gk ok kx b t v w → pa10a P3 i nn u s ks l A1 c1 A2 c2 g og k0 k1 k2 k3 k4 k5 k6 k7 k8 k9 gk ok kx b t v w' := by
  intro b t v w w' hE
  unfold pa10a
  split
  · exact id
  · exact id
  · exact id
  · exact id
  · exact id
  · exact id
  · exact id
  · exact id
  · exact id
  · exact id
  · exact id
  · exact id
  · exact id
  · exact id
  · exact id
  · exact id
  · exact id
  · exact id
  · rintro ⟨g, h1, h2, h3⟩
    exact ⟨g, h1, h2, stay hE h3 h2⟩
  · exact id
  · exact id
  · exact id
  · exact id
  · exact id
  · exact id
  · exact id
  · exact id
  · exact id
  · exact id
  · exact id
def pa10b (P3 i : Nat) (kd nn u : Int) (s : List UInt8) (ks : List (List UInt8)) (l : List DT) (A1 : Option Addr) (c1 : Nat) (A2 : Option Addr) (c2 : Nat) (g og : Nat) (k0 k1 k2 : Int) (k3 : ByteArray) (k4 : Option Addr) (k5 k6 : Nat) (k7 : Option Addr) (k8 k9 : Nat) : Posts := fun b t v w => match t with
  | 3 => v = .pointer (some ⟨P3, 0, none⟩)
  | 4 => v = .int .i64 (i : Nat)
  | 41 => v = .pointer (some ⟨P3, 0, none⟩)
  | 42 => v = .int .i64 kd
  | 43 => v = .bool false
  | 44 => v = .bool false
  | 60 => v = .bool false
  | 61 => v = .bool false
  | 62 => v = .pointer (some ⟨P3, 0, none⟩)
  | 63 => v = .int .i64 kd
  | 64 => v = .bool true
  | 65 => v = .bool true
  | 66 => v = .agg #[.int .i64 kd, .int .i64 nn, .int .u64 u, .string ⟨s.toArray⟩, .slice A1 ks.length c1, .slice A2 l.length c2]
  | 67 => v = .agg #[.int .i64 0, .int .i64 0, .int .u64 0, .string ⟨#[]⟩, .slice none 0 0, .slice none 0 0]
  | 68 => v = .agg #[.string ⟨#[]⟩, .int .i64 0, .bool true]
  | 69 => ∃ g', v = .slice (some ⟨g', 0, none⟩) 1 1 ∧ g' ≠ b ∧ w.heap[g']? = some (.cells #[.string ⟨#[]⟩, .int .i64 0, .bool true] 50 (0, 0))
  | 70 => v = .bool true
  | 71 => v = .bool false
  | 72 => v = .bool false
  | 73 => v = .bool false
  | _ => True
theorem pa10b_st (P3 i : Nat) (kd nn u : Int) (s : List UInt8) (ks : List (List UInt8)) (l : List DT) (A1 : Option Addr) (c1 : Nat) (A2 : Option Addr) (c2 : Nat) (g og : Nat) (k0 k1 k2 : Int) (k3 : ByteArray) (k4 : Option Addr) (k5 k6 : Nat) (k7 : Option Addr) (k8 k9 : Nat) : ∀ (b : Nat) (t : Tmp) (v : Value) (w w' : World), ExtB b w w' → pa10b P3 i kd nn u s ks l A1 c1 A2 c2 g og k0 k1 k2 k3 k4 k5 k6 k7 k8 k9 b t v w → pa10b P3 i kd nn u s ks l A1 c1 A2 c2 g og k0 k1 k2 k3 k4 k5 k6 k7 k8 k9 b t v w' := by
  intro b t v w w' hE
  unfold pa10b
  split
  · exact id
  · exact id
  · exact id
  · exact id
  · exact id
  · exact id
  · exact id
  · exact id
  · exact id
  · exact id
  · exact id
  · exact id
  · exact id
  · exact id
  · exact id
  · rintro ⟨g, h1, h2, h3⟩
    exact ⟨g, h1, h2, stay hE h3 h2⟩
  · exact id
  · exact id
  · exact id
  · exact id
  · exact id
def pa15 (P3 i : Nat) (kd nn u : Int) (s : List UInt8) (ks : List (List UInt8)) (l : List DT) (A1 : Option Addr) (c1 : Nat) (A2 : Option Addr) (c2 : Nat) (P5 k : Nat) (gx ox nx cx : Nat)  (k0 k1 k2 : Int) (k3 : ByteArray) (k4 : Option Addr) (k5 k6 : Nat) (k7 : Option Addr) (k8 k9 : Nat) : Posts := fun b t v w => match t with
  | 3 => v = .pointer (some ⟨P3, 0, none⟩)
  | 4 => v = .int .i64 (i : Nat)
  | 5 => v = .pointer (some ⟨P5, 0, none⟩)
  | 7 => v = .int .i64 (k : Nat)
  | 81 => v = .agg #[.int .i64 kd, .int .i64 nn, .int .u64 u, .string ⟨s.toArray⟩, .slice A1 ks.length c1, .slice A2 l.length c2]
  | 82 => v = .pointer (some ⟨P5, 5, none⟩)
  | 83 => v = .slice (some ⟨gx, ox, none⟩) nx cx
  | 84 => v = .int .i64 (k : Nat)
  | 85 => v = .pointer (some ⟨gx, ox + k * 6, none⟩)
  | 86 => v = .agg #[.int .i64 k0, .int .i64 k1, .int .u64 k2, .string k3, .slice k4 k5 k6, .slice k7 k8 k9]
  | 87 => v = .int .i64 (i : Nat)
  | 88 => v = .agg #[.string ⟨#[]⟩, .int .i64 (i : Nat), .bool false]
  | 89 => v = .int .i64 (k : Nat)
  | 90 => v = .agg #[.string ⟨#[]⟩, .int .i64 (k : Nat), .bool false]
  | 91 => ∃ g', v = .slice (some ⟨g', 0, none⟩) 2 2 ∧ g' ≠ b ∧ w.heap[g']? = some (.cells #[.string ⟨#[]⟩, .int .i64 (i : Nat), .bool false, .string ⟨#[]⟩, .int .i64 (k : Nat), .bool false] 50 (0, 0))
  | 92 => v = .bool true
  | 93 => v = .bool false
  | _ => True
theorem pa15_st (P3 i : Nat) (kd nn u : Int) (s : List UInt8) (ks : List (List UInt8)) (l : List DT) (A1 : Option Addr) (c1 : Nat) (A2 : Option Addr) (c2 : Nat) (P5 k : Nat) (gx ox nx cx : Nat)  (k0 k1 k2 : Int) (k3 : ByteArray) (k4 : Option Addr) (k5 k6 : Nat) (k7 : Option Addr) (k8 k9 : Nat) : ∀ (b : Nat) (t : Tmp) (v : Value) (w w' : World), ExtB b w w' → pa15 P3 i kd nn u s ks l A1 c1 A2 c2 P5 k gx ox nx cx k0 k1 k2 k3 k4 k5 k6 k7 k8 k9 b t v w → pa15 P3 i kd nn u s ks l A1 c1 A2 c2 P5 k gx ox nx cx k0 k1 k2 k3 k4 k5 k6 k7 k8 k9 b t v w' := by
  intro b t v w w' hE
  unfold pa15
  split
  · exact id
  · exact id
  · exact id
  · exact id
  · exact id
  · exact id
  · exact id
  · exact id
  · exact id
  · exact id
  · exact id
  · exact id
  · exact id
  · exact id
  · rintro ⟨g, h1, h2, h3⟩
    exact ⟨g, h1, h2, stay hE h3 h2⟩
  · exact id
  · exact id
  · exact id
def pa17 (P3 : Nat) (kd nn u : Int) (s : List UInt8) (ks : List (List UInt8)) (l : List DT) (A1 : Option Addr) (c1 : Nat) (A2 : Option Addr) (c2 : Nat) : Posts := fun b t v w => match t with
  | 3 => v = .pointer (some ⟨P3, 0, none⟩)
  | 94 => v = .agg #[.int .i64 kd, .int .i64 nn, .int .u64 u, .string ⟨s.toArray⟩, .slice A1 ks.length c1, .slice A2 l.length c2]
  | 95 => v = .agg #[.int .i64 0, .int .i64 0, .int .u64 0, .string ⟨#[]⟩, .slice none 0 0, .slice none 0 0]
  | 96 => v = .pointer (some ⟨P3, 5, none⟩)
  | 97 => v = .slice A2 l.length c2
  | 98 => v = .int .i64 (l.length : Nat)
  | 99 => v = .agg #[.string ⟨#[]⟩, .int .i64 (l.length : Nat), .bool false]
  | 100 => ∃ g', v = .slice (some ⟨g', 0, none⟩) 1 1 ∧ g' ≠ b ∧ w.heap[g']? = some (.cells #[.string ⟨#[]⟩, .int .i64 (l.length : Nat), .bool false] 50 (0, 0))
  | 101 => v = .bool true
  | 102 => v = .bool true
  | 103 => v = .bool true
  | 104 => v = .bool true
  | 2 => v = .bool true
  | _ => True
theorem pa17_st (P3 : Nat) (kd nn u : Int) (s : List UInt8) (ks : List (List UInt8)) (l : List DT) (A1 : Option Addr) (c1 : Nat) (A2 : Option Addr) (c2 : Nat) : ∀ (b : Nat) (t : Tmp) (v : Value) (w w' : World), ExtB b w w' → pa17 P3 kd nn u s ks l A1 c1 A2 c2 b t v w → pa17 P3 kd nn u s ks l A1 c1 A2 c2 b t v w' := by
  intro b t v w w' hE
  unfold pa17
  split
  · exact id
  · exact id
  · exact id
  · exact id
  · exact id
  · exact id
  · exact id
  · rintro ⟨g, h1, h2, h3⟩
    exact ⟨g, h1, h2, stay hE h3 h2⟩
  · exact id
  · exact id
  · exact id
  · exact id
  · exact id
  · exact id
set_option maxHeartbeats 16000000 in
set_option maxRecDepth 100000 in
theorem pathAll_any (T : DT) (w : World) (x0 x1 x2 x3 x4 x5 : Value) (hx : RRep w T [x0, x1, x2, x3, x4, x5]) (hwf : WfD T) (hT : ShowTabs w) :
    Calls Tryz.prog 10 #[.agg #[x0, x1, x2, x3, x4, x5]] w fun e w' => e = .returned (.bool true) ∧ Below w.heap.size w w' := by
  have HF := Lib.hid (fun (V : World) (hV : Below w.heap.size w V) => few8_any T V _ _ _ _ _ _ (RRep.below hV _ _ hx) hwf)
  have HSM0 := few_small T
  have HWF0 := few_wf hwf
  have HSZ0 := few_size T
  generalize fewD T = D at *
  have HLT := Lib.hid hT
  obtain ⟨kd0, nn0, u0, s0, A10, m10, c10, A20, m20, c20, hcs⟩ := hx.cs6
  simp only [List.cons.injEq, and_true] at hcs
  obtain ⟨rfl, rfl, rfl, rfl, rfl, rfl⟩ := hcs
  clear hx hwf hT
  go_enter Tryz.func10, Tryz.ntmps10
  go_upto_region 1 with fail
  refine wp_named (fun wn => Below w.heap.size w wn ∧ wn.heap[w.heap.size]? = some (.cells #[.int .i64 kd0, .int .i64 nn0, .int .u64 u0, .string s0, .slice A10 m10 c10, .slice A20 m20 c20] 38 (0, 0))) ⟨(Below.refl _ w).alloc (Nat.le_refl _) _, heap_alloc_new _ _⟩ ?_
  rintro wn ⟨hbn, hXn⟩
  obtain ⟨z0, z1, z2, z3, z4, z5⟩ := cells6 hXn
  have HB := Lib.hid hbn
  have hz1 : w.heap.size < wn.heap.size := (Array.getElem?_eq_some_iff.1 hXn).1
  clear hbn hXn
  go_wp2_with fail
  refine (HF.out wn HB.out).mono ?_
  rintro e w1 ⟨⟨v, rfl, hFr⟩, hb1⟩
  obtain ⟨y0, y1, y2, y3, y4, y5, bs, rfl, hN, -, -⟩ := hFr
  obtain ⟨kd, nn, u, s, ks, l⟩ := D
  obtain ⟨A1, c1, A2, c2, xs, hcs, hk1, hl1, hkids⟩ := (NRep.reads _ _ _ hN).form
  simp only [List.cons.injEq, and_true] at hcs
  obtain ⟨rfl, rfl, rfl, rfl, rfl, rfl⟩ := hcs
  have HB1 := Lib.hid (HB.out.trans (hb1.mono HB.out.size))
  have HN := Lib.hid hN
  have HL1 := Lib.hid hl1
  have HKS := Lib.hid hkids
  have HK1 := Lib.hid hk1
  clear z0 z1 z2 z3 z4 z5 hb1 hN hk1 hl1 hkids HF
  unfold strV at HN ⊢
  go_upto_region 2 with fail
  refine wp_named (fun wx => Below w1.heap.size w1 wx ∧ wx.heap[w1.heap.size]? = some (.cells #[.int .i64 kd, .int .i64 nn, .int .u64 u, .string ⟨s.toArray⟩, .slice A1 ks.length c1, .slice A2 l.length c2] 38 (0, 0))) ⟨(Below.refl _ w1).alloc (Nat.le_refl _) _, heap_alloc_new _ _⟩ ?_
  rintro wA ⟨hbA, h3A⟩
  have HNA := Lib.hid (HN.out.below hbA)
  have HKD := Lib.hid (And.intro (HL1.out.below hbA) (RReps.below hbA _ _ HKS.out))
  have HKK := Lib.hid (HK1.out.below hbA)
  have HBA0 := Lib.hid (HB1.out.trans (hbA.mono HB1.out.size))
  generalize w1.heap.size = P3 at h3A ⊢
  clear hbA HN HB1 HL1 HKS HK1
  have HRR := Lib.hid (NRep.reads _ _ _ HNA.out)
  have HSM := Lib.hid HSM0
  have HCK := Lib.hid (tcheck_any (.mk kd nn u s ks l) _ _ _ _ _ _ bs wA HNA.out HWF0 (by omega))
  have HL0 := Lib.hid (show LW w wA from ⟨HBA0.out, HLT.out.below HBA0.out⟩)
  have H3A := Lib.hid h3A
  obtain ⟨z0, z1, z2, z3, z4, z5⟩ := cells6 h3A
  obtain ⟨ck, hck⟩ : ∃ ck, chkD (.mk kd nn u s ks l) = ck := ⟨_, rfl⟩
  rw [hck] at HCK
  have hlb : l.length ≤ 9223372036854775807 := HKD.out.1.bound
  have HHC := Lib.hid hck
  clear hck h3A HNA HSM0 HWF0 HSZ0
  go_wp2_with fail
  refine HCK.out.mono ?_
  rintro e wB ⟨rfl, hbB⟩
  have HBB := Lib.hid hbB
  clear z0 z1 z2 z3 z4 z5 hbB HCK
  by_cases h0 : ck = 0
  · subst h0
    go_wp2_with fail
    go_loopw [4] (fun s4 wr => ∃ i : Nat, i ≤ l.length ∧ s4 = .int .i64 i ∧ Below wA.heap.size wA wr) (fun s4 _ => l.length - (intOf s4).toNat)
    case atStart => exact ⟨0, by omega, rfl, HBB.out⟩
    case round =>
      rename_i wr
      obtain ⟨i, hi, rfl, hbr⟩ := hrel
      have h3r := below_row H3A.out hbr
      have HBA := Lib.hid hbr
      have HLW := Lib.hid (HL0.out.next hbr)
      obtain ⟨z0, z1, z2, z3, z4, z5⟩ := cells6 h3r
      have gP3 : P3 < wr.heap.size := (Array.getElem?_eq_some_iff.1 h3r).1
      by_cases h1 : i < l.length
      · have h1' : (i : Int) < (l.length : Int) := by omega
        have hil : i < l.length := h1
        obtain ⟨g, og, k0, k1, k2, k3, k4, k5, k6, k7, k8, k9, hA2, hg0, hgr, hrep, p0, p1, p2, p3, p4, p5⟩ := HKD.out.2.kid HKD.out.1 hbr i hil
        have hkdi : kidD (.mk kd nn u s ks l) i = l[i] := by
          show l.getD i _ = _
          rw [List.getD_eq_getElem?_getD, List.getElem?_eq_getElem hil]
          rfl
        subst hA2
        have HKR := Lib.hid (show RRep wA (kidD (.mk kd nn u s ks l) i) [.int .i64 k0, .int .i64 k1, .int .u64 k2, .string k3, .slice k4 k5 k6, .slice k7 k8 k9] by rw [hkdi]; exact hrep)
        have HGA := Lib.hid (show getR (.mk kd nn u s ks l) [sAt i] = (kidD (.mk kd nn u s ks l) i, 0) from getR_at _ i hil)
        clear hrep hkdi hbr
        go_upto_region 7 with fail
        refine wp_region_each1P (n := 105) (ia := 8) (is_ := 9) [22, 23, 24, 25, 26, 21, 27, 28, 5, 6] (pa7 P3 i kd nn u s ks l A1 c1 (some ⟨g, og, none⟩) c2) (blkT (kidD (.mk kd nn u s ks l) i)) (by kernel_rfl) (by kernel_rfl) rfl (by kernel_rfl) (pa7_st P3 i kd nn u s ks l A1 c1 (some ⟨g, og, none⟩) c2) (blkT_st (kidD (.mk kd nn u s ks l) i)) ?_ rfl rfl rfl (fun a w K hK => opwp_allocN rfl a w K hK) (fun _ _ => rfl) (fun w => heap_alloc_new _ _) rfl rfl ?_ (by kernel_rfl) ?_ ?_
        · intro b hb t ht
          unfold pa7
          split
          · rfl
          · rfl
          · exact absurd rfl (ht 0 _ rfl)
          · exact absurd rfl (ht 1 _ rfl)
          · exact absurd rfl (ht 2 _ rfl)
          · exact absurd rfl (ht 3 _ rfl)
          · exact absurd rfl (ht 4 _ rfl)
          · exact absurd rfl (ht 5 _ rfl)
          · exact absurd rfl (ht 6 _ rfl)
          · exact absurd rfl (ht 7 _ rfl)
          · exact absurd rfl (ht 8 _ rfl)
          · exact absurd rfl (ht 10 _ rfl)
          · trivial
        · intro b a w hB hb1 hb2 hk hblk
          refine ⟨rfl, ?_⟩
          have ep : a.eval (.tmp 5) = .pointer (some ⟨b, 0, none⟩) := hk 5 (by decide)
          obtain ⟨kd', nn', uu', s', A', m', c', A2', m2', c2', bs', ev, hn, hbn⟩ : NVp w (kidD (.mk kd nn u s ks l) i) b (a.eval (.tmp 27)) := hk 27 (by decide)
          refine opwp_storeN rfl rfl ep ev hblk ?_
          intro w' q1 q2 q3 q4
          exact ⟨rfl, q2, q3, q4 wr hb1 hB, kd', nn', uu', s', A', m', c', A2', m2', c2', bs', q1, hn.ext q2 hbn⟩
        · intro jq oq hjq hne1 hne2
          match jq, hjq, hne1, hne2 with
          | 0, hjq, _, _ =>
            simp only [List.getElem?_toArray, List.getElem?_cons_zero, List.getElem?_cons_succ, Option.some.injEq] at hjq
            subst hjq
            intro B a w hB hb hk
            obtain ⟨b0, hb0⟩ := hB
            have e3 : a.eval (.tmp 3) = .pointer (some ⟨P3, 0, none⟩) := hk b0 hb0 3 (by decide)
            refine ⟨rfl, opwp_load6 rfl e3 (below_row h3r hb) ?_⟩
            exact ⟨Below.refl _ _, _, rfl, fun d hd b _ _ => by cases hd; rfl⟩
          | 1, hjq, _, _ =>
            simp only [List.getElem?_toArray, List.getElem?_cons_zero, List.getElem?_cons_succ, Option.some.injEq] at hjq
            subst hjq
            intro B a w hB hb hk
            obtain ⟨b0, hb0⟩ := hB
            have e4 : a.eval (.tmp 4) = .int .i64 (i : Nat) := hk b0 hb0 4 (by decide)
            refine ⟨rfl, opwp_move rfl e4 ?_⟩
            exact ⟨Below.refl _ _, _, rfl, fun d hd b _ _ => by cases hd; rfl⟩
          | 2, hjq, _, _ =>
            simp only [List.getElem?_toArray, List.getElem?_cons_zero, List.getElem?_cons_succ, Option.some.injEq] at hjq
            subst hjq
            intro B a w hB hb hk
            obtain ⟨b0, hb0⟩ := hB
            have e23 : a.eval (.tmp 23) = .int .i64 (i : Nat) := hk b0 hb0 23 (by decide)
            refine ⟨rfl, opwp_call (fun v w' => v = .agg #[.string ⟨#[]⟩, .int .i64 (i : Nat), .bool false] ∧ Below w.heap.size w w') (exec_call [a.eval (.tmp 23)] Tryz.func30 (by kernel_rfl) rfl rfl rfl) ?_ ?_⟩
            · rw [e23]
              refine (at8_any (i : Nat) w).mono ?_
              rintro e w' ⟨rfl, h⟩
              exact ⟨_, rfl, rfl, h⟩
            · rintro v w' ⟨rfl, h⟩
              exact ⟨h, _, rfl, fun d hd b _ _ => by cases hd; rfl⟩
          | 3, hjq, _, _ =>
            simp only [List.getElem?_toArray, List.getElem?_cons_zero, List.getElem?_cons_succ, Option.some.injEq] at hjq
            subst hjq
            intro B a w hB hb hk
            obtain ⟨b0, hb0⟩ := hB
            have e24 : a.eval (.tmp 24) = .agg #[.string ⟨#[]⟩, .int .i64 (i : Nat), .bool false] := hk b0 hb0 24 (by decide)
            refine ⟨rfl, opwp_bsS1 rfl e24 ?_⟩
            refine ⟨(Below.refl _ _).alloc (Nat.le_refl _) _, _, rfl, fun d hd b _ hbb => ?_⟩
            cases hd
            rw [World.size_alloc] at hbb
            exact ⟨w.heap.size, rfl, by omega, heap_alloc_new _ _⟩
          | 4, hjq, _, _ =>
            simp only [List.getElem?_toArray, List.getElem?_cons_zero, List.getElem?_cons_succ, Option.some.injEq] at hjq
            subst hjq
            intro B a w hB hb hk
            obtain ⟨b0, hb0⟩ := hB
            have e22 : a.eval (.tmp 22) = .agg #[.int .i64 kd, .int .i64 nn, .int .u64 u, .string ⟨s.toArray⟩, .slice A1 ks.length c1, .slice (some ⟨g, og, none⟩) l.length c2] := hk b0 hb0 22 (by decide)
            obtain ⟨g0, er, hg0, hgr⟩ : ∃ g, a.eval (.tmp 25) = .slice (some ⟨g, 0, none⟩) 1 1 ∧ g ≠ b0 ∧ w.heap[g]? = some (.cells #[.string ⟨#[]⟩, .int .i64 (i : Nat), .bool false] 50 (0, 0)) := hk b0 hb0 25 (by decide)
            refine ⟨rfl, opwp_call (fun v w' => Below w.heap.size w w' ∧ ∀ b, B b → (b < w.heap.size ∨ w'.heap.size ≤ b) → SVp w' (kidD (.mk kd nn u s ks l) i) 0 b v) (exec_call [a.eval (.tmp 22), a.eval (.tmp 25)] Tryz.func22 (by kernel_rfl) rfl rfl rfl) ?_ ?_⟩
            · rw [e22, er]
              refine (get_any (.mk kd nn u s ks l) [sAt i] w _ _ _ _ _ _ _ _ (RRep.below (HBA.out.trans (hb.mono HBA.out.size)) _ _ HRR.out) HSM.out (steprd_row hgr rfl (by simp))).mono ?_
              rintro e w' ⟨⟨v, rfl, hf⟩, h⟩
              rw [HGA.out] at hf ⊢
              exact ⟨_, rfl, h, fun b _ hbb => ⟨v, rfl, fresh_nvp hf hbb⟩⟩
            · rintro v w' ⟨h, hv⟩
              exact ⟨h, _, rfl, fun d hd b hbB hbb => by cases hd; exact hv b hbB hbb⟩
          | 5, hjq, _, _ =>
            simp only [List.getElem?_toArray, List.getElem?_cons_zero, List.getElem?_cons_succ, Option.some.injEq] at hjq
            subst hjq
            intro B a w hB hb hk
            obtain ⟨b0, hb0⟩ := hB
            have h0 : ∀ b, B b → SVp w (kidD (.mk kd nn u s ks l) i) 0 b (a.eval (.tmp 26)) := fun b hb => hk b hb 26 (by decide)
            refine ⟨rfl, opwp_move rfl rfl ?_⟩
            exact ⟨Below.refl _ _, _, rfl, fun d hd b hbB _ => by cases hd; exact h0 b hbB⟩
          | 6, hjq, _, _ =>
            simp only [List.getElem?_toArray, List.getElem?_cons_zero, List.getElem?_cons_succ, Option.some.injEq] at hjq
            subst hjq
            intro B a w hB hb hk
            obtain ⟨b0, hb0⟩ := hB
            have h0 : ∀ b, B b → SVp w (kidD (.mk kd nn u s ks l) i) 0 b (a.eval (.tmp 21)) := fun b hb => hk b hb 21 (by decide)
            obtain ⟨u, eu, -⟩ := h0 b0 hb0
            refine ⟨rfl, opwp_ext u rfl eu rfl ?_⟩
            refine ⟨Below.refl _ _, _, rfl, fun d hd b hbB _ => ?_⟩
            cases hd
            obtain ⟨u', eu', hu⟩ := h0 b hbB
            rw [eu] at eu'
            cases eu'
            exact hu
          | 7, hjq, _, _ =>
            simp only [List.getElem?_toArray, List.getElem?_cons_zero, List.getElem?_cons_succ, Option.some.injEq] at hjq
            subst hjq
            intro B a w hB hb hk
            obtain ⟨b0, hb0⟩ := hB
            obtain ⟨u, eu, -⟩ : SVp w (kidD (.mk kd nn u s ks l) i) 0 b0 (a.eval (.tmp 21)) := hk b0 hb0 21 (by decide)
            refine ⟨rfl, opwp_ext (.int .i64 0) rfl eu rfl ?_⟩
            exact ⟨Below.refl _ _, _, rfl, fun d hd b _ _ => by cases hd; rfl⟩
          | 8, hjq, h, _ => exact absurd rfl h
          | 9, hjq, _, h => exact absurd rfl h
          | 10, hjq, _, _ =>
            simp only [List.getElem?_toArray, List.getElem?_cons_zero, List.getElem?_cons_succ, Option.some.injEq] at hjq
            subst hjq
            intro B a w hB hb hk
            obtain ⟨b0, hb0⟩ := hB
            have e28 : a.eval (.tmp 28) = .int .i64 0 := hk b0 hb0 28 (by decide)
            refine ⟨rfl, opwp_assign rfl e28 ?_⟩
            exact ⟨Below.refl _ _, _, rfl, fun d hd b _ _ => by cases hd; rfl⟩
          | kq + 11, hjq, _, _ => cases hjq
        rintro b f w7 hB hb1 hb2 hp hblk
        have e5 : f 5 = .pointer (some ⟨b, 0, none⟩) := hp 5 (by decide)
        have e6 : f 6 = .int .i64 0 := hp 6 (by decide)
        simp only [puts, List.foldl, Act.put, List.setIfInBounds_toArray, List.set_cons_zero, List.set_cons_succ, e5, e6]
        generalize f 22 = v22
        generalize f 23 = v23
        generalize f 24 = v24
        generalize f 25 = v25
        generalize f 26 = v26
        generalize f 21 = v21
        generalize f 27 = v27
        generalize f 28 = v28
        obtain ⟨kd', nn', uu', s', A', m', c', A2', m2', c2', bs', h5r, hxn⟩ := hblk
        have h3s := below_row h3r hB
        have HBS := Lib.hid (HBA.out.trans (hB.mono HBA.out.size))
        have HXR := Lib.hid (NRep.reads _ _ _ hxn)
        have hgs : g < w7.heap.size := Nat.lt_of_lt_of_le hgr hB.size
        have q0 := (hB.cell (p := ⟨g, og + i * 6, none⟩) hgr).trans p0
        have q1 := (hB.cell (p := ⟨g, og + i * 6 + 1, none⟩) hgr).trans p1
        have q2 := (hB.cell (p := ⟨g, og + i * 6 + 2, none⟩) hgr).trans p2
        have q3 := (hB.cell (p := ⟨g, og + i * 6 + 3, none⟩) hgr).trans p3
        have q4 := (hB.cell (p := ⟨g, og + i * 6 + 4, none⟩) hgr).trans p4
        have q5 := (hB.cell (p := ⟨g, og + i * 6 + 5, none⟩) hgr).trans p5
        clear hp hB hb1 hb2 e5 e6 hxn h3r HBA hgr p0 p1 p2 p3 p4 p5 z0 z1 z2 z3 z4 z5 gP3 HLW
        have h3r := h3s
        clear h3s
        have HBA := HBS
        clear HBS
        have hgr := hgs
        clear hgs
        have p0 := q0
        clear q0
        have p1 := q1
        clear q1
        have p2 := q2
        clear q2
        have p3 := q3
        clear q3
        have p4 := q4
        clear q4
        have p5 := q5
        clear q5
        generalize b = P5 at *
        obtain ⟨z0, z1, z2, z3, z4, z5⟩ := cells6 h3r
        obtain ⟨y0, y1, y2, y3, y4, y5⟩ := cells6 h5r
        go_upto_region 8 with fail
        refine wp_region_eachP (n := 105) [29, 30, 31, 32, 33, 34, 35, 36, 37, 38, 39, 40] (pa8 P3 i kd nn u s ks l A1 c1 (some ⟨g, og, none⟩) c2 P5 kd' nn' uu' s' A' m' c' A2' m2' c2' g og k0 k1 k2 k3 k4 k5 k6 k7 k8 k9) (by kernel_rfl) (by kernel_rfl) rfl (by kernel_rfl) (pa8_st P3 i kd nn u s ks l A1 c1 (some ⟨g, og, none⟩) c2 P5 kd' nn' uu' s' A' m' c' A2' m2' c2' g og k0 k1 k2 k3 k4 k5 k6 k7 k8 k9) ?_ ?_ ?_
        · intro b hb t ht
          unfold pa8
          split
          · rfl
          · rfl
          · rfl
          · rfl
          · exact absurd rfl (ht 0 _ rfl)
          · exact absurd rfl (ht 1 _ rfl)
          · exact absurd rfl (ht 2 _ rfl)
          · exact absurd rfl (ht 3 _ rfl)
          · exact absurd rfl (ht 4 _ rfl)
          · exact absurd rfl (ht 5 _ rfl)
          · exact absurd rfl (ht 6 _ rfl)
          · exact absurd rfl (ht 7 _ rfl)
          · exact absurd rfl (ht 8 _ rfl)
          · exact absurd rfl (ht 9 _ rfl)
          · exact absurd rfl (ht 10 _ rfl)
          · exact absurd rfl (ht 11 _ rfl)
          · trivial
        · intro jq oq hjq
          match jq, hjq with
          | 0, hjq =>
            simp only [List.getElem?_toArray, List.getElem?_cons_zero, List.getElem?_cons_succ, Option.some.injEq] at hjq
            subst hjq
            intro B a w hB hb hk
            obtain ⟨b0, hb0⟩ := hB
            have e6 : a.eval (.tmp 6) = .int .i64 0 := hk b0 hb0 6 (by decide)
            refine ⟨rfl, opwp_move rfl e6 ?_⟩
            exact ⟨Below.refl _ _, _, rfl, fun d hd b _ _ => by cases hd; rfl⟩
          | 1, hjq =>
            simp only [List.getElem?_toArray, List.getElem?_cons_zero, List.getElem?_cons_succ, Option.some.injEq] at hjq
            subst hjq
            intro B a w hB hb hk
            obtain ⟨b0, hb0⟩ := hB
            have e29 : a.eval (.tmp 29) = .int .i64 0 := hk b0 hb0 29 (by decide)
            refine ⟨rfl, opwp_neqE rfl e29 ?_⟩
            exact ⟨Below.refl _ _, _, rfl, fun d hd b _ _ => by cases hd; rfl⟩
          | 2, hjq =>
            simp only [List.getElem?_toArray, List.getElem?_cons_zero, List.getElem?_cons_succ, Option.some.injEq] at hjq
            subst hjq
            intro B a w hB hb hk
            obtain ⟨b0, hb0⟩ := hB
            have e30 : a.eval (.tmp 30) = .bool false := hk b0 hb0 30 (by decide)
            refine ⟨rfl, opwp_move rfl e30 ?_⟩
            exact ⟨Below.refl _ _, _, rfl, fun d hd b _ _ => by cases hd; rfl⟩
          | 3, hjq =>
            simp only [List.getElem?_toArray, List.getElem?_cons_zero, List.getElem?_cons_succ, Option.some.injEq] at hjq
            subst hjq
            intro B a w hB hb hk
            obtain ⟨b0, hb0⟩ := hB
            have e5 : a.eval (.tmp 5) = .pointer (some ⟨P5, 0, none⟩) := hk b0 hb0 5 (by decide)
            have eg : a.eval (.tmp 31) = .bool false := hk b0 hb0 31 (by decide)
            refine ⟨wanted_of rfl rfl eg, opwp_load6 rfl e5 (below_row h5r hb) ?_⟩
            exact ⟨Below.refl _ _, _, rfl, fun d hd b _ _ => by cases hd; rfl⟩
          | 4, hjq =>
            simp only [List.getElem?_toArray, List.getElem?_cons_zero, List.getElem?_cons_succ, Option.some.injEq] at hjq
            subst hjq
            intro B a w hB hb hk
            obtain ⟨b0, hb0⟩ := hB
            have e3 : a.eval (.tmp 3) = .pointer (some ⟨P3, 0, none⟩) := hk b0 hb0 3 (by decide)
            have eg : a.eval (.tmp 31) = .bool false := hk b0 hb0 31 (by decide)
            refine ⟨wanted_of rfl rfl eg, opwp_fa5 rfl e3 ?_⟩
            exact ⟨Below.refl _ _, _, rfl, fun d hd b _ _ => by cases hd; rfl⟩
          | 5, hjq =>
            simp only [List.getElem?_toArray, List.getElem?_cons_zero, List.getElem?_cons_succ, Option.some.injEq] at hjq
            subst hjq
            intro B a w hB hb hk
            obtain ⟨b0, hb0⟩ := hB
            have e33 : a.eval (.tmp 33) = .pointer (some ⟨P3, 5, none⟩) := hk b0 hb0 33 (by decide)
            have eg : a.eval (.tmp 31) = .bool false := hk b0 hb0 31 (by decide)
            refine ⟨wanted_of rfl rfl eg, opwp_ldL rfl e33 (cells6 (below_row h3r hb)).2.2.2.2.2 ?_⟩
            exact ⟨Below.refl _ _, _, rfl, fun d hd b _ _ => by cases hd; rfl⟩
          | 6, hjq =>
            simp only [List.getElem?_toArray, List.getElem?_cons_zero, List.getElem?_cons_succ, Option.some.injEq] at hjq
            subst hjq
            intro B a w hB hb hk
            obtain ⟨b0, hb0⟩ := hB
            have e4 : a.eval (.tmp 4) = .int .i64 (i : Nat) := hk b0 hb0 4 (by decide)
            have eg : a.eval (.tmp 31) = .bool false := hk b0 hb0 31 (by decide)
            refine ⟨wanted_of rfl rfl eg, opwp_move rfl e4 ?_⟩
            exact ⟨Below.refl _ _, _, rfl, fun d hd b _ _ => by cases hd; rfl⟩
          | 7, hjq =>
            simp only [List.getElem?_toArray, List.getElem?_cons_zero, List.getElem?_cons_succ, Option.some.injEq] at hjq
            subst hjq
            intro B a w hB hb hk
            obtain ⟨b0, hb0⟩ := hB
            have e34 : a.eval (.tmp 34) = .slice (some ⟨g, og, none⟩) l.length c2 := hk b0 hb0 34 (by decide)
            have e35 : a.eval (.tmp 35) = .int .i64 (i : Nat) := hk b0 hb0 35 (by decide)
            have eg : a.eval (.tmp 31) = .bool false := hk b0 hb0 31 (by decide)
            refine ⟨wanted_of rfl rfl eg, opwp_iaN rfl e34 e35 hil ?_⟩
            exact ⟨Below.refl _ _, _, rfl, fun d hd b _ _ => by cases hd; rfl⟩
          | 8, hjq =>
            simp only [List.getElem?_toArray, List.getElem?_cons_zero, List.getElem?_cons_succ, Option.some.injEq] at hjq
            subst hjq
            intro B a w hB hb hk
            obtain ⟨b0, hb0⟩ := hB
            have e36 : a.eval (.tmp 36) = .pointer (some ⟨g, og + i * 6, none⟩) := hk b0 hb0 36 (by decide)
            have eg : a.eval (.tmp 31) = .bool false := hk b0 hb0 31 (by decide)
            refine ⟨wanted_of rfl rfl eg, opwp_ldN rfl e36 ((hb.cell (p := ⟨g, og + i * 6, none⟩) hgr).trans p0) ((hb.cell (p := ⟨g, og + i * 6 + 1, none⟩) hgr).trans p1) ((hb.cell (p := ⟨g, og + i * 6 + 2, none⟩) hgr).trans p2) ((hb.cell (p := ⟨g, og + i * 6 + 3, none⟩) hgr).trans p3) ((hb.cell (p := ⟨g, og + i * 6 + 4, none⟩) hgr).trans p4) ((hb.cell (p := ⟨g, og + i * 6 + 5, none⟩) hgr).trans p5) ?_⟩
            exact ⟨Below.refl _ _, _, rfl, fun d hd b _ _ => by cases hd; rfl⟩
          | 9, hjq =>
            simp only [List.getElem?_toArray, List.getElem?_cons_zero, List.getElem?_cons_succ, Option.some.injEq] at hjq
            subst hjq
            intro B a w hB hb hk
            obtain ⟨b0, hb0⟩ := hB
            have e32 : a.eval (.tmp 32) = .agg #[.int .i64 kd', .int .i64 nn', .int .u64 uu', .string s', .slice A' m' c', .slice A2' m2' c2'] := hk b0 hb0 32 (by decide)
            have e37 : a.eval (.tmp 37) = .agg #[.int .i64 k0, .int .i64 k1, .int .u64 k2, .string k3, .slice k4 k5 k6, .slice k7 k8 k9] := hk b0 hb0 37 (by decide)
            have eg : a.eval (.tmp 31) = .bool false := hk b0 hb0 31 (by decide)
            refine ⟨wanted_of rfl rfl eg, opwp_call (fun v w' => v = .bool true ∧ Below w.heap.size w w') (exec_call [a.eval (.tmp 32), a.eval (.tmp 37)] Tryz.func28 (by kernel_rfl) rfl rfl rfl) ?_ ?_⟩
            · rw [e32, e37]
              refine (same_any (kidD (.mk kd nn u s ks l) i) (kidD (.mk kd nn u s ks l) i) w w _ _ _ _ _ _ _ _ _ _ _ _ (Below.refl _ _) (RRep.below hb _ _ HXR.out) (RRep.below (HBA.out.trans (hb.mono HBA.out.size)) _ _ HKR.out)).mono ?_
              rintro e w' ⟨bb, rfl, hiff, h⟩
              obtain rfl : bb = true := hiff.2 rfl
              exact ⟨_, rfl, rfl, h⟩
            · rintro v w' ⟨rfl, h⟩
              exact ⟨h, _, rfl, fun d hd b _ _ => by cases hd; rfl⟩
          | 10, hjq =>
            simp only [List.getElem?_toArray, List.getElem?_cons_zero, List.getElem?_cons_succ, Option.some.injEq] at hjq
            subst hjq
            intro B a w hB hb hk
            obtain ⟨b0, hb0⟩ := hB
            have e38 : a.eval (.tmp 38) = .bool true := hk b0 hb0 38 (by decide)
            have eg : a.eval (.tmp 31) = .bool false := hk b0 hb0 31 (by decide)
            refine ⟨wanted_of rfl rfl eg, opwp_not rfl e38 ?_⟩
            exact ⟨Below.refl _ _, _, rfl, fun d hd b _ _ => by cases hd; rfl⟩
          | 11, hjq =>
            simp only [List.getElem?_toArray, List.getElem?_cons_zero, List.getElem?_cons_succ, Option.some.injEq] at hjq
            subst hjq
            intro B a w hB hb hk
            obtain ⟨b0, hb0⟩ := hB
            have e31 : a.eval (.tmp 31) = .bool false := hk b0 hb0 31 (by decide)
            have e39 : a.eval (.tmp 39) = .bool false := hk b0 hb0 39 (by decide)
            refine ⟨rfl, opwp_pickF rfl e31 e39 ?_⟩
            exact ⟨Below.refl _ _, _, rfl, fun d hd b _ _ => by cases hd; rfl⟩
          | kq + 12, hjq => cases hjq
        rintro f w8 hB hp
        have e40 : f 40 = .bool false := hp _ (Nat.le_refl _) 40 (by decide)
        simp only [puts, List.foldl, Act.put, List.setIfInBounds_toArray, List.set_cons_zero, List.set_cons_succ, e40]
        generalize f 29 = v29
        generalize f 30 = v30
        generalize f 31 = v31
        generalize f 32 = v32
        generalize f 33 = v33
        generalize f 34 = v34
        generalize f 35 = v35
        generalize f 36 = v36
        generalize f 37 = v37
        generalize f 38 = v38
        generalize f 39 = v39
        have h3s := below_row h3r hB
        have h5s := below_row h5r hB
        have HBS := Lib.hid (HBA.out.trans (hB.mono HBA.out.size))
        have HBX := Lib.hid hB
        have hgs : g < w8.heap.size := Nat.lt_of_lt_of_le hgr hB.size
        have q0 := (hB.cell (p := ⟨g, og + i * 6, none⟩) hgr).trans p0
        have q1 := (hB.cell (p := ⟨g, og + i * 6 + 1, none⟩) hgr).trans p1
        have q2 := (hB.cell (p := ⟨g, og + i * 6 + 2, none⟩) hgr).trans p2
        have q3 := (hB.cell (p := ⟨g, og + i * 6 + 3, none⟩) hgr).trans p3
        have q4 := (hB.cell (p := ⟨g, og + i * 6 + 4, none⟩) hgr).trans p4
        have q5 := (hB.cell (p := ⟨g, og + i * 6 + 5, none⟩) hgr).trans p5
        clear hp hB e40 h3r h5r HBA hgr p0 p1 p2 p3 p4 p5 z0 z1 z2 z3 z4 z5 y0 y1 y2 y3 y4 y5
        have h3r := h3s
        clear h3s
        have h5r := h5s
        clear h5s
        have HBA := HBS
        clear HBS
        have hgr2 := hgs
        clear hgs
        have p0 := q0
        clear q0
        have p1 := q1
        clear q1
        have p2 := q2
        clear q2
        have p3 := q3
        clear q3
        have p4 := q4
        clear q4
        have p5 := q5
        clear q5
        obtain ⟨z0, z1, z2, z3, z4, z5⟩ := cells6 h3r
        obtain ⟨y0, y1, y2, y3, y4, y5⟩ := cells6 h5r
        go_upto_region 10 with fail
        refine wp_reg_via [41, 42, 43, 44, 45, 46, 47, 48, 49, 50, 51, 52, 53, 54, 55, 56, 57, 58, 59, 60, 61, 62, 63, 64, 65, 66, 67, 68, 69, 70, 71, 72, 73] (fun f => f 73 = .bool false) ?_ ?_
        · by_cases hkd17 : kd = 17
          · subst hkd17
            obtain ⟨hkl, hknd⟩ := chk_map HHC.out rfl
            have hik : i < ks.length := by omega
            obtain ⟨gk, ok, hA1, hgk0, hgkr, pk⟩ := HKK.out.text HBA.out i hik
            subst hA1
            obtain ⟨kk, hkx⟩ : ∃ kk, kk = ks[i] := ⟨_, rfl⟩
            rw [← hkx] at pk
            have HGB := Lib.hid (show getR (.mk 17 nn u s ks l) [(kk, 0, true)] = (kidD (.mk 17 nn u s ks l) i, 0) by rw [hkx]; exact getR_by HHC.out rfl i hik)
            obtain ⟨kx, hkx2⟩ : ∃ kx : ByteArray, kx = ⟨kk.toArray⟩ := ⟨_, rfl⟩
            rw [← hkx2] at pk
            clear hkx
            have hkx := hkx2
            refine wp_region_each2P (n := 105) [41, 42, 43, 44, 45, 46, 47, 48, 49, 50, 51, 52, 53, 54, 55, 56, 57, 58, 59, 60, 61, 62, 63, 64, 65, 66, 67, 68, 69, 70, 71, 72, 73] (pa10a P3 i nn u s ks l (some ⟨gk, ok, none⟩) c1 (some ⟨g, og, none⟩) c2 g og k0 k1 k2 k3 k4 k5 k6 k7 k8 k9 gk ok kx) (by kernel_rfl) (by kernel_rfl) rfl (by kernel_rfl) (pa10a_st P3 i nn u s ks l (some ⟨gk, ok, none⟩) c1 (some ⟨g, og, none⟩) c2 g og k0 k1 k2 k3 k4 k5 k6 k7 k8 k9 gk ok kx) ?_ ?_ ?_
            · intro b hb t ht
              unfold pa10a
              split
              · rfl
              · rfl
              · exact absurd rfl (ht 0 _ rfl)
              · exact absurd rfl (ht 1 _ rfl)
              · exact absurd rfl (ht 2 _ rfl)
              · exact absurd rfl (ht 3 _ rfl)
              · exact absurd rfl (ht 4 _ rfl)
              · exact absurd rfl (ht 5 _ rfl)
              · exact absurd rfl (ht 6 _ rfl)
              · exact absurd rfl (ht 7 _ rfl)
              · exact absurd rfl (ht 8 _ rfl)
              · exact absurd rfl (ht 9 _ rfl)
              · exact absurd rfl (ht 10 _ rfl)
              · exact absurd rfl (ht 11 _ rfl)
              · exact absurd rfl (ht 12 _ rfl)
              · exact absurd rfl (ht 13 _ rfl)
              · exact absurd rfl (ht 14 _ rfl)
              · exact absurd rfl (ht 15 _ rfl)
              · exact absurd rfl (ht 16 _ rfl)
              · exact absurd rfl (ht 17 _ rfl)
              · exact absurd rfl (ht 18 _ rfl)
              · exact absurd rfl (ht 19 _ rfl)
              · exact absurd rfl (ht 20 _ rfl)
              · exact absurd rfl (ht 21 _ rfl)
              · exact absurd rfl (ht 22 _ rfl)
              · exact absurd rfl (ht 23 _ rfl)
              · exact absurd rfl (ht 24 _ rfl)
              · exact absurd rfl (ht 31 _ rfl)
              · exact absurd rfl (ht 32 _ rfl)
              · trivial
            · intro jq oq hjq
              match jq, hjq with
              | 0, hjq =>
                simp only [List.getElem?_toArray, List.getElem?_cons_zero, List.getElem?_cons_succ, Option.some.injEq] at hjq
                subst hjq
                refine OpOk.two ?_
                intro B a w hB hb hk
                obtain ⟨b0, hb0⟩ := hB
                have e3 : a.eval (.tmp 3) = .pointer (some ⟨P3, 0, none⟩) := hk b0 hb0 3 (by decide)
                refine ⟨rfl, opwp_fa0 rfl e3 ?_⟩
                exact ⟨Below.refl _ _, _, rfl, fun d hd b _ _ => by cases hd; rfl⟩
              | 1, hjq =>
                simp only [List.getElem?_toArray, List.getElem?_cons_zero, List.getElem?_cons_succ, Option.some.injEq] at hjq
                subst hjq
                refine OpOk.two ?_
                intro B a w hB hb hk
                obtain ⟨b0, hb0⟩ := hB
                have e41 : a.eval (.tmp 41) = .pointer (some ⟨P3, 0, none⟩) := hk b0 hb0 41 (by decide)
                refine ⟨rfl, opwp_ldI rfl e41 (cells6 (below_row h3r hb)).1 ?_⟩
                exact ⟨Below.refl _ _, _, rfl, fun d hd b _ _ => by cases hd; rfl⟩
              | 2, hjq =>
                simp only [List.getElem?_toArray, List.getElem?_cons_zero, List.getElem?_cons_succ, Option.some.injEq] at hjq
                subst hjq
                refine OpOk.two ?_
                intro B a w hB hb hk
                obtain ⟨b0, hb0⟩ := hB
                have e42 : a.eval (.tmp 42) = .int .i64 17 := hk b0 hb0 42 (by decide)
                refine ⟨rfl, opwp_eqI rfl e42 ?_⟩
                exact ⟨Below.refl _ _, _, rfl, fun d hd b _ _ => by cases hd; rfl⟩
              | 3, hjq =>
                simp only [List.getElem?_toArray, List.getElem?_cons_zero, List.getElem?_cons_succ, Option.some.injEq] at hjq
                subst hjq
                refine OpOk.two ?_
                intro B a w hB hb hk
                obtain ⟨b0, hb0⟩ := hB
                have e43 : a.eval (.tmp 43) = .bool true := hk b0 hb0 43 (by decide)
                refine ⟨rfl, opwp_move rfl e43 ?_⟩
                exact ⟨Below.refl _ _, _, rfl, fun d hd b _ _ => by cases hd; rfl⟩
              | 4, hjq =>
                simp only [List.getElem?_toArray, List.getElem?_cons_zero, List.getElem?_cons_succ, Option.some.injEq] at hjq
                subst hjq
                refine OpOk.two ?_
                intro B a w hB hb hk
                obtain ⟨b0, hb0⟩ := hB
                have e3 : a.eval (.tmp 3) = .pointer (some ⟨P3, 0, none⟩) := hk b0 hb0 3 (by decide)
                have eg : a.eval (.tmp 44) = .bool true := hk b0 hb0 44 (by decide)
                refine ⟨wanted_of rfl rfl eg, opwp_load6 rfl e3 (below_row h3r hb) ?_⟩
                exact ⟨Below.refl _ _, _, rfl, fun d hd b _ _ => by cases hd; rfl⟩
              | 5, hjq =>
                simp only [List.getElem?_toArray, List.getElem?_cons_zero, List.getElem?_cons_succ, Option.some.injEq] at hjq
                subst hjq
                refine OpOk.two ?_
                intro B a w hB hb hk
                obtain ⟨b0, hb0⟩ := hB
                have e3 : a.eval (.tmp 3) = .pointer (some ⟨P3, 0, none⟩) := hk b0 hb0 3 (by decide)
                have eg : a.eval (.tmp 44) = .bool true := hk b0 hb0 44 (by decide)
                refine ⟨wanted_of rfl rfl eg, opwp_fa5 rfl e3 ?_⟩
                exact ⟨Below.refl _ _, _, rfl, fun d hd b _ _ => by cases hd; rfl⟩
              | 6, hjq =>
                simp only [List.getElem?_toArray, List.getElem?_cons_zero, List.getElem?_cons_succ, Option.some.injEq] at hjq
                subst hjq
                refine OpOk.two ?_
                intro B a w hB hb hk
                obtain ⟨b0, hb0⟩ := hB
                have e46 : a.eval (.tmp 46) = .pointer (some ⟨P3, 5, none⟩) := hk b0 hb0 46 (by decide)
                have eg : a.eval (.tmp 44) = .bool true := hk b0 hb0 44 (by decide)
                refine ⟨wanted_of rfl rfl eg, opwp_ldL rfl e46 (cells6 (below_row h3r hb)).2.2.2.2.2 ?_⟩
                exact ⟨Below.refl _ _, _, rfl, fun d hd b _ _ => by cases hd; rfl⟩
              | 7, hjq =>
                simp only [List.getElem?_toArray, List.getElem?_cons_zero, List.getElem?_cons_succ, Option.some.injEq] at hjq
                subst hjq
                refine OpOk.two ?_
                intro B a w hB hb hk
                obtain ⟨b0, hb0⟩ := hB
                have e4 : a.eval (.tmp 4) = .int .i64 (i : Nat) := hk b0 hb0 4 (by decide)
                have eg : a.eval (.tmp 44) = .bool true := hk b0 hb0 44 (by decide)
                refine ⟨wanted_of rfl rfl eg, opwp_move rfl e4 ?_⟩
                exact ⟨Below.refl _ _, _, rfl, fun d hd b _ _ => by cases hd; rfl⟩
              | 8, hjq =>
                simp only [List.getElem?_toArray, List.getElem?_cons_zero, List.getElem?_cons_succ, Option.some.injEq] at hjq
                subst hjq
                refine OpOk.two ?_
                intro B a w hB hb hk
                obtain ⟨b0, hb0⟩ := hB
                have e47 : a.eval (.tmp 47) = .slice (some ⟨g, og, none⟩) l.length c2 := hk b0 hb0 47 (by decide)
                have e48 : a.eval (.tmp 48) = .int .i64 (i : Nat) := hk b0 hb0 48 (by decide)
                have eg : a.eval (.tmp 44) = .bool true := hk b0 hb0 44 (by decide)
                refine ⟨wanted_of rfl rfl eg, opwp_iaN rfl e47 e48 hil ?_⟩
                exact ⟨Below.refl _ _, _, rfl, fun d hd b _ _ => by cases hd; rfl⟩
              | 9, hjq =>
                simp only [List.getElem?_toArray, List.getElem?_cons_zero, List.getElem?_cons_succ, Option.some.injEq] at hjq
                subst hjq
                refine OpOk.two ?_
                intro B a w hB hb hk
                obtain ⟨b0, hb0⟩ := hB
                have e49 : a.eval (.tmp 49) = .pointer (some ⟨g, og + i * 6, none⟩) := hk b0 hb0 49 (by decide)
                have eg : a.eval (.tmp 44) = .bool true := hk b0 hb0 44 (by decide)
                refine ⟨wanted_of rfl rfl eg, opwp_ldN rfl e49 ((hb.cell (p := ⟨g, og + i * 6, none⟩) hgr2).trans p0) ((hb.cell (p := ⟨g, og + i * 6 + 1, none⟩) hgr2).trans p1) ((hb.cell (p := ⟨g, og + i * 6 + 2, none⟩) hgr2).trans p2) ((hb.cell (p := ⟨g, og + i * 6 + 3, none⟩) hgr2).trans p3) ((hb.cell (p := ⟨g, og + i * 6 + 4, none⟩) hgr2).trans p4) ((hb.cell (p := ⟨g, og + i * 6 + 5, none⟩) hgr2).trans p5) ?_⟩
                exact ⟨Below.refl _ _, _, rfl, fun d hd b _ _ => by cases hd; rfl⟩
              | 10, hjq =>
                simp only [List.getElem?_toArray, List.getElem?_cons_zero, List.getElem?_cons_succ, Option.some.injEq] at hjq
                subst hjq
                refine OpOk.two ?_
                intro B a w hB hb hk
                obtain ⟨b0, hb0⟩ := hB
                have e3 : a.eval (.tmp 3) = .pointer (some ⟨P3, 0, none⟩) := hk b0 hb0 3 (by decide)
                have eg : a.eval (.tmp 44) = .bool true := hk b0 hb0 44 (by decide)
                refine ⟨wanted_of rfl rfl eg, opwp_fa4 rfl e3 ?_⟩
                exact ⟨Below.refl _ _, _, rfl, fun d hd b _ _ => by cases hd; rfl⟩
              | 11, hjq =>
                simp only [List.getElem?_toArray, List.getElem?_cons_zero, List.getElem?_cons_succ, Option.some.injEq] at hjq
                subst hjq
                refine OpOk.two ?_
                intro B a w hB hb hk
                obtain ⟨b0, hb0⟩ := hB
                have e51 : a.eval (.tmp 51) = .pointer (some ⟨P3, 4, none⟩) := hk b0 hb0 51 (by decide)
                have eg : a.eval (.tmp 44) = .bool true := hk b0 hb0 44 (by decide)
                refine ⟨wanted_of rfl rfl eg, opwp_ldT rfl e51 (cells6 (below_row h3r hb)).2.2.2.2.1 ?_⟩
                exact ⟨Below.refl _ _, _, rfl, fun d hd b _ _ => by cases hd; rfl⟩
              | 12, hjq =>
                simp only [List.getElem?_toArray, List.getElem?_cons_zero, List.getElem?_cons_succ, Option.some.injEq] at hjq
                subst hjq
                refine OpOk.two ?_
                intro B a w hB hb hk
                obtain ⟨b0, hb0⟩ := hB
                have e4 : a.eval (.tmp 4) = .int .i64 (i : Nat) := hk b0 hb0 4 (by decide)
                have eg : a.eval (.tmp 44) = .bool true := hk b0 hb0 44 (by decide)
                refine ⟨wanted_of rfl rfl eg, opwp_move rfl e4 ?_⟩
                exact ⟨Below.refl _ _, _, rfl, fun d hd b _ _ => by cases hd; rfl⟩
              | 13, hjq =>
                simp only [List.getElem?_toArray, List.getElem?_cons_zero, List.getElem?_cons_succ, Option.some.injEq] at hjq
                subst hjq
                refine OpOk.two ?_
                intro B a w hB hb hk
                obtain ⟨b0, hb0⟩ := hB
                have e52 : a.eval (.tmp 52) = .slice (some ⟨gk, ok, none⟩) ks.length c1 := hk b0 hb0 52 (by decide)
                have e53 : a.eval (.tmp 53) = .int .i64 (i : Nat) := hk b0 hb0 53 (by decide)
                have eg : a.eval (.tmp 44) = .bool true := hk b0 hb0 44 (by decide)
                refine ⟨wanted_of rfl rfl eg, opwp_iaT rfl e52 e53 hik ?_⟩
                exact ⟨Below.refl _ _, _, rfl, fun d hd b _ _ => by cases hd; rfl⟩
              | 14, hjq =>
                simp only [List.getElem?_toArray, List.getElem?_cons_zero, List.getElem?_cons_succ, Option.some.injEq] at hjq
                subst hjq
                refine OpOk.two ?_
                intro B a w hB hb hk
                obtain ⟨b0, hb0⟩ := hB
                have e54 : a.eval (.tmp 54) = .pointer (some ⟨gk, ok + i, none⟩) := hk b0 hb0 54 (by decide)
                have eg : a.eval (.tmp 44) = .bool true := hk b0 hb0 44 (by decide)
                refine ⟨wanted_of rfl rfl eg, opwp_ldS rfl e54 ((hb.cell (p := ⟨gk, ok + i, none⟩) hgkr).trans pk) ?_⟩
                exact ⟨Below.refl _ _, _, rfl, fun d hd b _ _ => by cases hd; rfl⟩
              | 15, hjq =>
                simp only [List.getElem?_toArray, List.getElem?_cons_zero, List.getElem?_cons_succ, Option.some.injEq] at hjq
                subst hjq
                refine OpOk.two ?_
                intro B a w hB hb hk
                obtain ⟨b0, hb0⟩ := hB
                have e55 : a.eval (.tmp 55) = .string kx := hk b0 hb0 55 (by decide)
                have eg : a.eval (.tmp 44) = .bool true := hk b0 hb0 44 (by decide)
                refine ⟨wanted_of rfl rfl eg, opwp_call (fun v w' => v = .agg #[.string kx, .int .i64 0, .bool true] ∧ Below w.heap.size w w') (exec_call [a.eval (.tmp 55)] Tryz.func32 (by kernel_rfl) rfl rfl rfl) ?_ ?_⟩
                · rw [e55]
                  refine (by8_any kx w).mono ?_
                  rintro e w' ⟨rfl, h⟩
                  exact ⟨_, rfl, rfl, h⟩
                · rintro v w' ⟨rfl, h⟩
                  exact ⟨h, _, rfl, fun d hd b _ _ => by cases hd; rfl⟩
              | 16, hjq =>
                simp only [List.getElem?_toArray, List.getElem?_cons_zero, List.getElem?_cons_succ, Option.some.injEq] at hjq
                subst hjq
                refine OpOk.two ?_
                intro B a w hB hb hk
                obtain ⟨b0, hb0⟩ := hB
                have e56 : a.eval (.tmp 56) = .agg #[.string kx, .int .i64 0, .bool true] := hk b0 hb0 56 (by decide)
                have eg : a.eval (.tmp 44) = .bool true := hk b0 hb0 44 (by decide)
                refine ⟨wanted_of rfl rfl eg, opwp_bsS1 rfl e56 ?_⟩
                refine ⟨(Below.refl _ _).alloc (Nat.le_refl _) _, _, rfl, fun d hd b _ hbb => ?_⟩
                cases hd
                rw [World.size_alloc] at hbb
                exact ⟨w.heap.size, rfl, by omega, heap_alloc_new _ _⟩
              | 17, hjq =>
                simp only [List.getElem?_toArray, List.getElem?_cons_zero, List.getElem?_cons_succ, Option.some.injEq] at hjq
                subst hjq
                refine OpOk.two ?_
                intro B a w hB hb hk
                obtain ⟨b0, hb0⟩ := hB
                have e45 : a.eval (.tmp 45) = .agg #[.int .i64 17, .int .i64 nn, .int .u64 u, .string ⟨s.toArray⟩, .slice (some ⟨gk, ok, none⟩) ks.length c1, .slice (some ⟨g, og, none⟩) l.length c2] := hk b0 hb0 45 (by decide)
                have e50 : a.eval (.tmp 50) = .agg #[.int .i64 k0, .int .i64 k1, .int .u64 k2, .string k3, .slice k4 k5 k6, .slice k7 k8 k9] := hk b0 hb0 50 (by decide)
                obtain ⟨g0, er, hg0, hgr⟩ : ∃ g, a.eval (.tmp 57) = .slice (some ⟨g, 0, none⟩) 1 1 ∧ g ≠ b0 ∧ w.heap[g]? = some (.cells #[.string kx, .int .i64 0, .bool true] 50 (0, 0)) := hk b0 hb0 57 (by decide)
                have eg : a.eval (.tmp 44) = .bool true := hk b0 hb0 44 (by decide)
                refine ⟨wanted_of rfl rfl eg, opwp_call (fun v w' => v = .bool true ∧ Below w.heap.size w w') (exec_call [a.eval (.tmp 45), a.eval (.tmp 50), .int .i64 0, a.eval (.tmp 57)] Tryz.func31 (by kernel_rfl) rfl rfl rfl) ?_ ?_⟩
                · rw [e45, e50, er]
                  refine (leads8_any (.mk 17 nn u s ks l) (kidD (.mk 17 nn u s ks l) i) 0 [(kk, 0, true)] w _ _ _ _ _ _ _ _ _ _ _ _ _ _ (RRep.below (HBA.out.trans (hb.mono HBA.out.size)) _ _ HRR.out) (RRep.below (HBA.out.trans (hb.mono HBA.out.size)) _ _ HKR.out) HSM.out (steprd_row hgr (by rw [hkx]; rfl) (by simp)) HGB.out).mono ?_
                  rintro e w' ⟨rfl, h⟩
                  exact ⟨_, rfl, rfl, h⟩
                · rintro v w' ⟨rfl, h⟩
                  exact ⟨h, _, rfl, fun d hd b _ _ => by cases hd; rfl⟩
              | 18, hjq =>
                simp only [List.getElem?_toArray, List.getElem?_cons_zero, List.getElem?_cons_succ, Option.some.injEq] at hjq
                subst hjq
                refine OpOk.two ?_
                intro B a w hB hb hk
                obtain ⟨b0, hb0⟩ := hB
                have e58 : a.eval (.tmp 58) = .bool true := hk b0 hb0 58 (by decide)
                have eg : a.eval (.tmp 44) = .bool true := hk b0 hb0 44 (by decide)
                refine ⟨wanted_of rfl rfl eg, opwp_not rfl e58 ?_⟩
                exact ⟨Below.refl _ _, _, rfl, fun d hd b _ _ => by cases hd; rfl⟩
              | 19, hjq =>
                simp only [List.getElem?_toArray, List.getElem?_cons_zero, List.getElem?_cons_succ, Option.some.injEq] at hjq
                subst hjq
                refine OpOk.two ?_
                intro B a w hB hb hk
                obtain ⟨b0, hb0⟩ := hB
                have e44 : a.eval (.tmp 44) = .bool true := hk b0 hb0 44 (by decide)
                have e59 : a.eval (.tmp 59) = .bool false := hk b0 hb0 59 (by decide)
                refine ⟨rfl, opwp_pickT rfl e44 e59 ?_⟩
                exact ⟨Below.refl _ _, _, rfl, fun d hd b _ _ => by cases hd; rfl⟩
              | 20, hjq =>
                simp only [List.getElem?_toArray, List.getElem?_cons_zero, List.getElem?_cons_succ, Option.some.injEq] at hjq
                subst hjq
                refine OpOk.two ?_
                intro B a w hB hb hk
                obtain ⟨b0, hb0⟩ := hB
                have e60 : a.eval (.tmp 60) = .bool false := hk b0 hb0 60 (by decide)
                refine ⟨rfl, opwp_move rfl e60 ?_⟩
                exact ⟨Below.refl _ _, _, rfl, fun d hd b _ _ => by cases hd; rfl⟩
              | 21, hjq =>
                simp only [List.getElem?_toArray, List.getElem?_cons_zero, List.getElem?_cons_succ, Option.some.injEq] at hjq
                subst hjq
                refine OpOk.two ?_
                intro B a w hB hb hk
                obtain ⟨b0, hb0⟩ := hB
                have e3 : a.eval (.tmp 3) = .pointer (some ⟨P3, 0, none⟩) := hk b0 hb0 3 (by decide)
                have eg : a.eval (.tmp 61) = .bool false := hk b0 hb0 61 (by decide)
                refine ⟨wanted_of rfl rfl eg, opwp_fa0 rfl e3 ?_⟩
                exact ⟨Below.refl _ _, _, rfl, fun d hd b _ _ => by cases hd; rfl⟩
              | 22, hjq =>
                simp only [List.getElem?_toArray, List.getElem?_cons_zero, List.getElem?_cons_succ, Option.some.injEq] at hjq
                subst hjq
                refine OpOk.two ?_
                intro B a w hB hb hk
                obtain ⟨b0, hb0⟩ := hB
                have e62 : a.eval (.tmp 62) = .pointer (some ⟨P3, 0, none⟩) := hk b0 hb0 62 (by decide)
                have eg : a.eval (.tmp 61) = .bool false := hk b0 hb0 61 (by decide)
                refine ⟨wanted_of rfl rfl eg, opwp_ldI rfl e62 (cells6 (below_row h3r hb)).1 ?_⟩
                exact ⟨Below.refl _ _, _, rfl, fun d hd b _ _ => by cases hd; rfl⟩
              | 23, hjq =>
                simp only [List.getElem?_toArray, List.getElem?_cons_zero, List.getElem?_cons_succ, Option.some.injEq] at hjq
                subst hjq
                refine OpOk.two ?_
                intro B a w hB hb hk
                obtain ⟨b0, hb0⟩ := hB
                have e63 : a.eval (.tmp 63) = .int .i64 17 := hk b0 hb0 63 (by decide)
                have eg : a.eval (.tmp 61) = .bool false := hk b0 hb0 61 (by decide)
                refine ⟨wanted_of rfl rfl eg, opwp_neqI rfl e63 ?_⟩
                exact ⟨Below.refl _ _, _, rfl, fun d hd b _ _ => by cases hd; rfl⟩
              | 24, hjq =>
                simp only [List.getElem?_toArray, List.getElem?_cons_zero, List.getElem?_cons_succ, Option.some.injEq] at hjq
                subst hjq
                refine OpOk.two ?_
                intro B a w hB hb hk
                obtain ⟨b0, hb0⟩ := hB
                have e64 : a.eval (.tmp 64) = .bool false := hk b0 hb0 64 (by decide)
                have eg : a.eval (.tmp 61) = .bool false := hk b0 hb0 61 (by decide)
                refine ⟨wanted_of rfl rfl eg, opwp_move rfl e64 ?_⟩
                exact ⟨Below.refl _ _, _, rfl, fun d hd b _ _ => by cases hd; rfl⟩
              | 25, hjq =>
                simp only [List.getElem?_toArray, List.getElem?_cons_zero, List.getElem?_cons_succ, Option.some.injEq] at hjq
                subst hjq
                intro B a w hB hb hk
                obtain ⟨b0, hb0⟩ := hB
                have eg : a.eval (.tmp 65) = .bool false := hk b0 hb0 65 (by decide)
                exact .inr ⟨unwanted_of rfl rfl eg (by decide), fun d hd b hb => by cases hd; trivial⟩
              | 26, hjq =>
                simp only [List.getElem?_toArray, List.getElem?_cons_zero, List.getElem?_cons_succ, Option.some.injEq] at hjq
                subst hjq
                intro B a w hB hb hk
                obtain ⟨b0, hb0⟩ := hB
                have eg : a.eval (.tmp 65) = .bool false := hk b0 hb0 65 (by decide)
                exact .inr ⟨unwanted_of rfl rfl eg (by decide), fun d hd b hb => by cases hd; trivial⟩
              | 27, hjq =>
                simp only [List.getElem?_toArray, List.getElem?_cons_zero, List.getElem?_cons_succ, Option.some.injEq] at hjq
                subst hjq
                intro B a w hB hb hk
                obtain ⟨b0, hb0⟩ := hB
                have eg : a.eval (.tmp 65) = .bool false := hk b0 hb0 65 (by decide)
                exact .inr ⟨unwanted_of rfl rfl eg (by decide), fun d hd b hb => by cases hd; trivial⟩
              | 28, hjq =>
                simp only [List.getElem?_toArray, List.getElem?_cons_zero, List.getElem?_cons_succ, Option.some.injEq] at hjq
                subst hjq
                intro B a w hB hb hk
                obtain ⟨b0, hb0⟩ := hB
                have eg : a.eval (.tmp 65) = .bool false := hk b0 hb0 65 (by decide)
                exact .inr ⟨unwanted_of rfl rfl eg (by decide), fun d hd b hb => by cases hd; trivial⟩
              | 29, hjq =>
                simp only [List.getElem?_toArray, List.getElem?_cons_zero, List.getElem?_cons_succ, Option.some.injEq] at hjq
                subst hjq
                intro B a w hB hb hk
                obtain ⟨b0, hb0⟩ := hB
                have eg : a.eval (.tmp 65) = .bool false := hk b0 hb0 65 (by decide)
                exact .inr ⟨unwanted_of rfl rfl eg (by decide), fun d hd b hb => by cases hd; trivial⟩
              | 30, hjq =>
                simp only [List.getElem?_toArray, List.getElem?_cons_zero, List.getElem?_cons_succ, Option.some.injEq] at hjq
                subst hjq
                intro B a w hB hb hk
                obtain ⟨b0, hb0⟩ := hB
                have eg : a.eval (.tmp 65) = .bool false := hk b0 hb0 65 (by decide)
                exact .inr ⟨unwanted_of rfl rfl eg (by decide), fun d hd b hb => by cases hd; trivial⟩
              | 31, hjq =>
                simp only [List.getElem?_toArray, List.getElem?_cons_zero, List.getElem?_cons_succ, Option.some.injEq] at hjq
                subst hjq
                refine OpOk.two ?_
                intro B a w hB hb hk
                obtain ⟨b0, hb0⟩ := hB
                have e65 : a.eval (.tmp 65) = .bool false := hk b0 hb0 65 (by decide)
                have eg : a.eval (.tmp 61) = .bool false := hk b0 hb0 61 (by decide)
                refine ⟨wanted_of rfl rfl eg, opwp_pickC rfl e65 ?_⟩
                exact ⟨Below.refl _ _, _, rfl, fun d hd b _ _ => by cases hd; rfl⟩
              | 32, hjq =>
                simp only [List.getElem?_toArray, List.getElem?_cons_zero, List.getElem?_cons_succ, Option.some.injEq] at hjq
                subst hjq
                refine OpOk.two ?_
                intro B a w hB hb hk
                obtain ⟨b0, hb0⟩ := hB
                have e61 : a.eval (.tmp 61) = .bool false := hk b0 hb0 61 (by decide)
                have e72 : a.eval (.tmp 72) = .bool false := hk b0 hb0 72 (by decide)
                refine ⟨rfl, opwp_pickF rfl e61 e72 ?_⟩
                exact ⟨Below.refl _ _, _, rfl, fun d hd b _ _ => by cases hd; rfl⟩
              | kq + 33, hjq => cases hjq
            intro f w9 hB hp
            exact ⟨rfl, f, rfl, hp _ (Nat.le_refl _) 73 (by decide), hB⟩
          · have hkd : (kd == 17) = false := by simpa using hkd17
            have hkd2 : (kd != 17) = true := by simpa using hkd17
            have HGN := Lib.hid (show getR (.mk kd nn u s ks l) [([], 0, true)] = (zT, 80) from getR_nokey hkd17 [])
            refine wp_region_each2P (n := 105) [41, 42, 43, 44, 45, 46, 47, 48, 49, 50, 51, 52, 53, 54, 55, 56, 57, 58, 59, 60, 61, 62, 63, 64, 65, 66, 67, 68, 69, 70, 71, 72, 73] (pa10b P3 i kd nn u s ks l A1 c1 (some ⟨g, og, none⟩) c2 g og k0 k1 k2 k3 k4 k5 k6 k7 k8 k9) (by kernel_rfl) (by kernel_rfl) rfl (by kernel_rfl) (pa10b_st P3 i kd nn u s ks l A1 c1 (some ⟨g, og, none⟩) c2 g og k0 k1 k2 k3 k4 k5 k6 k7 k8 k9) ?_ ?_ ?_
            · intro b hb t ht
              unfold pa10b
              split
              · rfl
              · rfl
              · exact absurd rfl (ht 0 _ rfl)
              · exact absurd rfl (ht 1 _ rfl)
              · exact absurd rfl (ht 2 _ rfl)
              · exact absurd rfl (ht 3 _ rfl)
              · exact absurd rfl (ht 19 _ rfl)
              · exact absurd rfl (ht 20 _ rfl)
              · exact absurd rfl (ht 21 _ rfl)
              · exact absurd rfl (ht 22 _ rfl)
              · exact absurd rfl (ht 23 _ rfl)
              · exact absurd rfl (ht 24 _ rfl)
              · exact absurd rfl (ht 25 _ rfl)
              · exact absurd rfl (ht 26 _ rfl)
              · exact absurd rfl (ht 27 _ rfl)
              · exact absurd rfl (ht 28 _ rfl)
              · exact absurd rfl (ht 29 _ rfl)
              · exact absurd rfl (ht 30 _ rfl)
              · exact absurd rfl (ht 31 _ rfl)
              · exact absurd rfl (ht 32 _ rfl)
              · trivial
            · intro jq oq hjq
              match jq, hjq with
              | 0, hjq =>
                simp only [List.getElem?_toArray, List.getElem?_cons_zero, List.getElem?_cons_succ, Option.some.injEq] at hjq
                subst hjq
                refine OpOk.two ?_
                intro B a w hB hb hk
                obtain ⟨b0, hb0⟩ := hB
                have e3 : a.eval (.tmp 3) = .pointer (some ⟨P3, 0, none⟩) := hk b0 hb0 3 (by decide)
                refine ⟨rfl, opwp_fa0 rfl e3 ?_⟩
                exact ⟨Below.refl _ _, _, rfl, fun d hd b _ _ => by cases hd; rfl⟩
              | 1, hjq =>
                simp only [List.getElem?_toArray, List.getElem?_cons_zero, List.getElem?_cons_succ, Option.some.injEq] at hjq
                subst hjq
                refine OpOk.two ?_
                intro B a w hB hb hk
                obtain ⟨b0, hb0⟩ := hB
                have e41 : a.eval (.tmp 41) = .pointer (some ⟨P3, 0, none⟩) := hk b0 hb0 41 (by decide)
                refine ⟨rfl, opwp_ldI rfl e41 (cells6 (below_row h3r hb)).1 ?_⟩
                exact ⟨Below.refl _ _, _, rfl, fun d hd b _ _ => by cases hd; rfl⟩
              | 2, hjq =>
                simp only [List.getElem?_toArray, List.getElem?_cons_zero, List.getElem?_cons_succ, Option.some.injEq] at hjq
                subst hjq
                refine OpOk.two ?_
                intro B a w hB hb hk
                obtain ⟨b0, hb0⟩ := hB
                have e42 : a.eval (.tmp 42) = .int .i64 kd := hk b0 hb0 42 (by decide)
                refine ⟨rfl, opwp_eqI rfl e42 ?_⟩
                rw [hkd]
                exact ⟨Below.refl _ _, _, rfl, fun d hd b _ _ => by cases hd; rfl⟩
              | 3, hjq =>
                simp only [List.getElem?_toArray, List.getElem?_cons_zero, List.getElem?_cons_succ, Option.some.injEq] at hjq
                subst hjq
                refine OpOk.two ?_
                intro B a w hB hb hk
                obtain ⟨b0, hb0⟩ := hB
                have e43 : a.eval (.tmp 43) = .bool false := hk b0 hb0 43 (by decide)
                refine ⟨rfl, opwp_move rfl e43 ?_⟩
                exact ⟨Below.refl _ _, _, rfl, fun d hd b _ _ => by cases hd; rfl⟩
              | 4, hjq =>
                simp only [List.getElem?_toArray, List.getElem?_cons_zero, List.getElem?_cons_succ, Option.some.injEq] at hjq
                subst hjq
                intro B a w hB hb hk
                obtain ⟨b0, hb0⟩ := hB
                have eg : a.eval (.tmp 44) = .bool false := hk b0 hb0 44 (by decide)
                exact .inr ⟨unwanted_of rfl rfl eg (by decide), fun d hd b hb => by cases hd; trivial⟩
              | 5, hjq =>
                simp only [List.getElem?_toArray, List.getElem?_cons_zero, List.getElem?_cons_succ, Option.some.injEq] at hjq
                subst hjq
                intro B a w hB hb hk
                obtain ⟨b0, hb0⟩ := hB
                have eg : a.eval (.tmp 44) = .bool false := hk b0 hb0 44 (by decide)
                exact .inr ⟨unwanted_of rfl rfl eg (by decide), fun d hd b hb => by cases hd; trivial⟩
              | 6, hjq =>
                simp only [List.getElem?_toArray, List.getElem?_cons_zero, List.getElem?_cons_succ, Option.some.injEq] at hjq
                subst hjq
                intro B a w hB hb hk
                obtain ⟨b0, hb0⟩ := hB
                have eg : a.eval (.tmp 44) = .bool false := hk b0 hb0 44 (by decide)
                exact .inr ⟨unwanted_of rfl rfl eg (by decide), fun d hd b hb => by cases hd; trivial⟩
              | 7, hjq =>
                simp only [List.getElem?_toArray, List.getElem?_cons_zero, List.getElem?_cons_succ, Option.some.injEq] at hjq
                subst hjq
                intro B a w hB hb hk
                obtain ⟨b0, hb0⟩ := hB
                have eg : a.eval (.tmp 44) = .bool false := hk b0 hb0 44 (by decide)
                exact .inr ⟨unwanted_of rfl rfl eg (by decide), fun d hd b hb => by cases hd; trivial⟩
              | 8, hjq =>
                simp only [List.getElem?_toArray, List.getElem?_cons_zero, List.getElem?_cons_succ, Option.some.injEq] at hjq
                subst hjq
                intro B a w hB hb hk
                obtain ⟨b0, hb0⟩ := hB
                have eg : a.eval (.tmp 44) = .bool false := hk b0 hb0 44 (by decide)
                exact .inr ⟨unwanted_of rfl rfl eg (by decide), fun d hd b hb => by cases hd; trivial⟩
              | 9, hjq =>
                simp only [List.getElem?_toArray, List.getElem?_cons_zero, List.getElem?_cons_succ, Option.some.injEq] at hjq
                subst hjq
                intro B a w hB hb hk
                obtain ⟨b0, hb0⟩ := hB
                have eg : a.eval (.tmp 44) = .bool false := hk b0 hb0 44 (by decide)
                exact .inr ⟨unwanted_of rfl rfl eg (by decide), fun d hd b hb => by cases hd; trivial⟩
              | 10, hjq =>
                simp only [List.getElem?_toArray, List.getElem?_cons_zero, List.getElem?_cons_succ, Option.some.injEq] at hjq
                subst hjq
                intro B a w hB hb hk
                obtain ⟨b0, hb0⟩ := hB
                have eg : a.eval (.tmp 44) = .bool false := hk b0 hb0 44 (by decide)
                exact .inr ⟨unwanted_of rfl rfl eg (by decide), fun d hd b hb => by cases hd; trivial⟩
              | 11, hjq =>
                simp only [List.getElem?_toArray, List.getElem?_cons_zero, List.getElem?_cons_succ, Option.some.injEq] at hjq
                subst hjq
                intro B a w hB hb hk
                obtain ⟨b0, hb0⟩ := hB
                have eg : a.eval (.tmp 44) = .bool false := hk b0 hb0 44 (by decide)
                exact .inr ⟨unwanted_of rfl rfl eg (by decide), fun d hd b hb => by cases hd; trivial⟩
              | 12, hjq =>
                simp only [List.getElem?_toArray, List.getElem?_cons_zero, List.getElem?_cons_succ, Option.some.injEq] at hjq
                subst hjq
                intro B a w hB hb hk
                obtain ⟨b0, hb0⟩ := hB
                have eg : a.eval (.tmp 44) = .bool false := hk b0 hb0 44 (by decide)
                exact .inr ⟨unwanted_of rfl rfl eg (by decide), fun d hd b hb => by cases hd; trivial⟩
              | 13, hjq =>
                simp only [List.getElem?_toArray, List.getElem?_cons_zero, List.getElem?_cons_succ, Option.some.injEq] at hjq
                subst hjq
                intro B a w hB hb hk
                obtain ⟨b0, hb0⟩ := hB
                have eg : a.eval (.tmp 44) = .bool false := hk b0 hb0 44 (by decide)
                exact .inr ⟨unwanted_of rfl rfl eg (by decide), fun d hd b hb => by cases hd; trivial⟩
              | 14, hjq =>
                simp only [List.getElem?_toArray, List.getElem?_cons_zero, List.getElem?_cons_succ, Option.some.injEq] at hjq
                subst hjq
                intro B a w hB hb hk
                obtain ⟨b0, hb0⟩ := hB
                have eg : a.eval (.tmp 44) = .bool false := hk b0 hb0 44 (by decide)
                exact .inr ⟨unwanted_of rfl rfl eg (by decide), fun d hd b hb => by cases hd; trivial⟩
              | 15, hjq =>
                simp only [List.getElem?_toArray, List.getElem?_cons_zero, List.getElem?_cons_succ, Option.some.injEq] at hjq
                subst hjq
                intro B a w hB hb hk
                obtain ⟨b0, hb0⟩ := hB
                have eg : a.eval (.tmp 44) = .bool false := hk b0 hb0 44 (by decide)
                exact .inr ⟨unwanted_of rfl rfl eg (by decide), fun d hd b hb => by cases hd; trivial⟩
              | 16, hjq =>
                simp only [List.getElem?_toArray, List.getElem?_cons_zero, List.getElem?_cons_succ, Option.some.injEq] at hjq
                subst hjq
                intro B a w hB hb hk
                obtain ⟨b0, hb0⟩ := hB
                have eg : a.eval (.tmp 44) = .bool false := hk b0 hb0 44 (by decide)
                exact .inr ⟨unwanted_of rfl rfl eg (by decide), fun d hd b hb => by cases hd; trivial⟩
              | 17, hjq =>
                simp only [List.getElem?_toArray, List.getElem?_cons_zero, List.getElem?_cons_succ, Option.some.injEq] at hjq
                subst hjq
                intro B a w hB hb hk
                obtain ⟨b0, hb0⟩ := hB
                have eg : a.eval (.tmp 44) = .bool false := hk b0 hb0 44 (by decide)
                exact .inr ⟨unwanted_of rfl rfl eg (by decide), fun d hd b hb => by cases hd; trivial⟩
              | 18, hjq =>
                simp only [List.getElem?_toArray, List.getElem?_cons_zero, List.getElem?_cons_succ, Option.some.injEq] at hjq
                subst hjq
                intro B a w hB hb hk
                obtain ⟨b0, hb0⟩ := hB
                have eg : a.eval (.tmp 44) = .bool false := hk b0 hb0 44 (by decide)
                exact .inr ⟨unwanted_of rfl rfl eg (by decide), fun d hd b hb => by cases hd; trivial⟩
              | 19, hjq =>
                simp only [List.getElem?_toArray, List.getElem?_cons_zero, List.getElem?_cons_succ, Option.some.injEq] at hjq
                subst hjq
                refine OpOk.two ?_
                intro B a w hB hb hk
                obtain ⟨b0, hb0⟩ := hB
                have e44 : a.eval (.tmp 44) = .bool false := hk b0 hb0 44 (by decide)
                refine ⟨rfl, opwp_pickC rfl e44 ?_⟩
                exact ⟨Below.refl _ _, _, rfl, fun d hd b _ _ => by cases hd; rfl⟩
              | 20, hjq =>
                simp only [List.getElem?_toArray, List.getElem?_cons_zero, List.getElem?_cons_succ, Option.some.injEq] at hjq
                subst hjq
                refine OpOk.two ?_
                intro B a w hB hb hk
                obtain ⟨b0, hb0⟩ := hB
                have e60 : a.eval (.tmp 60) = .bool false := hk b0 hb0 60 (by decide)
                refine ⟨rfl, opwp_move rfl e60 ?_⟩
                exact ⟨Below.refl _ _, _, rfl, fun d hd b _ _ => by cases hd; rfl⟩
              | 21, hjq =>
                simp only [List.getElem?_toArray, List.getElem?_cons_zero, List.getElem?_cons_succ, Option.some.injEq] at hjq
                subst hjq
                refine OpOk.two ?_
                intro B a w hB hb hk
                obtain ⟨b0, hb0⟩ := hB
                have e3 : a.eval (.tmp 3) = .pointer (some ⟨P3, 0, none⟩) := hk b0 hb0 3 (by decide)
                have eg : a.eval (.tmp 61) = .bool false := hk b0 hb0 61 (by decide)
                refine ⟨wanted_of rfl rfl eg, opwp_fa0 rfl e3 ?_⟩
                exact ⟨Below.refl _ _, _, rfl, fun d hd b _ _ => by cases hd; rfl⟩
              | 22, hjq =>
                simp only [List.getElem?_toArray, List.getElem?_cons_zero, List.getElem?_cons_succ, Option.some.injEq] at hjq
                subst hjq
                refine OpOk.two ?_
                intro B a w hB hb hk
                obtain ⟨b0, hb0⟩ := hB
                have e62 : a.eval (.tmp 62) = .pointer (some ⟨P3, 0, none⟩) := hk b0 hb0 62 (by decide)
                have eg : a.eval (.tmp 61) = .bool false := hk b0 hb0 61 (by decide)
                refine ⟨wanted_of rfl rfl eg, opwp_ldI rfl e62 (cells6 (below_row h3r hb)).1 ?_⟩
                exact ⟨Below.refl _ _, _, rfl, fun d hd b _ _ => by cases hd; rfl⟩
              | 23, hjq =>
                simp only [List.getElem?_toArray, List.getElem?_cons_zero, List.getElem?_cons_succ, Option.some.injEq] at hjq
                subst hjq
                refine OpOk.two ?_
                intro B a w hB hb hk
                obtain ⟨b0, hb0⟩ := hB
                have e63 : a.eval (.tmp 63) = .int .i64 kd := hk b0 hb0 63 (by decide)
                have eg : a.eval (.tmp 61) = .bool false := hk b0 hb0 61 (by decide)
                refine ⟨wanted_of rfl rfl eg, opwp_neqI rfl e63 ?_⟩
                rw [hkd2]
                exact ⟨Below.refl _ _, _, rfl, fun d hd b _ _ => by cases hd; rfl⟩
              | 24, hjq =>
                simp only [List.getElem?_toArray, List.getElem?_cons_zero, List.getElem?_cons_succ, Option.some.injEq] at hjq
                subst hjq
                refine OpOk.two ?_
                intro B a w hB hb hk
                obtain ⟨b0, hb0⟩ := hB
                have e64 : a.eval (.tmp 64) = .bool true := hk b0 hb0 64 (by decide)
                have eg : a.eval (.tmp 61) = .bool false := hk b0 hb0 61 (by decide)
                refine ⟨wanted_of rfl rfl eg, opwp_move rfl e64 ?_⟩
                exact ⟨Below.refl _ _, _, rfl, fun d hd b _ _ => by cases hd; rfl⟩
              | 25, hjq =>
                simp only [List.getElem?_toArray, List.getElem?_cons_zero, List.getElem?_cons_succ, Option.some.injEq] at hjq
                subst hjq
                refine OpOk.two ?_
                intro B a w hB hb hk
                obtain ⟨b0, hb0⟩ := hB
                have e3 : a.eval (.tmp 3) = .pointer (some ⟨P3, 0, none⟩) := hk b0 hb0 3 (by decide)
                have eg : a.eval (.tmp 65) = .bool true := hk b0 hb0 65 (by decide)
                refine ⟨wanted_of rfl rfl eg, opwp_load6 rfl e3 (below_row h3r hb) ?_⟩
                exact ⟨Below.refl _ _, _, rfl, fun d hd b _ _ => by cases hd; rfl⟩
              | 26, hjq =>
                simp only [List.getElem?_toArray, List.getElem?_cons_zero, List.getElem?_cons_succ, Option.some.injEq] at hjq
                subst hjq
                refine OpOk.two ?_
                intro B a w hB hb hk
                obtain ⟨b0, hb0⟩ := hB
                have eg : a.eval (.tmp 65) = .bool true := hk b0 hb0 65 (by decide)
                refine ⟨wanted_of rfl rfl eg, opwp_build0 rfl ?_⟩
                exact ⟨Below.refl _ _, _, rfl, fun d hd b _ _ => by cases hd; rfl⟩
              | 27, hjq =>
                simp only [List.getElem?_toArray, List.getElem?_cons_zero, List.getElem?_cons_succ, Option.some.injEq] at hjq
                subst hjq
                refine OpOk.two ?_
                intro B a w hB hb hk
                obtain ⟨b0, hb0⟩ := hB
                have eg : a.eval (.tmp 65) = .bool true := hk b0 hb0 65 (by decide)
                refine ⟨wanted_of rfl rfl eg, opwp_call (fun v w' => v = .agg #[.string ⟨#[]⟩, .int .i64 0, .bool true] ∧ Below w.heap.size w w') (exec_call [.string ⟨#[]⟩] Tryz.func32 (by kernel_rfl) rfl rfl rfl) ?_ ?_⟩
                · refine (by8_any ⟨#[]⟩ w).mono ?_
                  rintro e w' ⟨rfl, h⟩
                  exact ⟨_, rfl, rfl, h⟩
                · rintro v w' ⟨rfl, h⟩
                  exact ⟨h, _, rfl, fun d hd b _ _ => by cases hd; rfl⟩
              | 28, hjq =>
                simp only [List.getElem?_toArray, List.getElem?_cons_zero, List.getElem?_cons_succ, Option.some.injEq] at hjq
                subst hjq
                refine OpOk.two ?_
                intro B a w hB hb hk
                obtain ⟨b0, hb0⟩ := hB
                have e68 : a.eval (.tmp 68) = .agg #[.string ⟨#[]⟩, .int .i64 0, .bool true] := hk b0 hb0 68 (by decide)
                have eg : a.eval (.tmp 65) = .bool true := hk b0 hb0 65 (by decide)
                refine ⟨wanted_of rfl rfl eg, opwp_bsS1 rfl e68 ?_⟩
                refine ⟨(Below.refl _ _).alloc (Nat.le_refl _) _, _, rfl, fun d hd b _ hbb => ?_⟩
                cases hd
                rw [World.size_alloc] at hbb
                exact ⟨w.heap.size, rfl, by omega, heap_alloc_new _ _⟩
              | 29, hjq =>
                simp only [List.getElem?_toArray, List.getElem?_cons_zero, List.getElem?_cons_succ, Option.some.injEq] at hjq
                subst hjq
                refine OpOk.two ?_
                intro B a w hB hb hk
                obtain ⟨b0, hb0⟩ := hB
                have e66 : a.eval (.tmp 66) = .agg #[.int .i64 kd, .int .i64 nn, .int .u64 u, .string ⟨s.toArray⟩, .slice A1 ks.length c1, .slice (some ⟨g, og, none⟩) l.length c2] := hk b0 hb0 66 (by decide)
                have e67 : a.eval (.tmp 67) = .agg #[.int .i64 0, .int .i64 0, .int .u64 0, .string ⟨#[]⟩, .slice none 0 0, .slice none 0 0] := hk b0 hb0 67 (by decide)
                obtain ⟨g0, er, hg0, hgr⟩ : ∃ g, a.eval (.tmp 69) = .slice (some ⟨g, 0, none⟩) 1 1 ∧ g ≠ b0 ∧ w.heap[g]? = some (.cells #[.string ⟨#[]⟩, .int .i64 0, .bool true] 50 (0, 0)) := hk b0 hb0 69 (by decide)
                have eg : a.eval (.tmp 65) = .bool true := hk b0 hb0 65 (by decide)
                refine ⟨wanted_of rfl rfl eg, opwp_call (fun v w' => v = .bool true ∧ Below w.heap.size w w') (exec_call [a.eval (.tmp 66), a.eval (.tmp 67), .int .i64 80, a.eval (.tmp 69)] Tryz.func31 (by kernel_rfl) rfl rfl rfl) ?_ ?_⟩
                · rw [e66, e67, er]
                  refine (leads8_any (.mk kd nn u s ks l) zT 80 [([], 0, true)] w _ _ _ _ _ _ _ _ _ _ _ _ _ _ (RRep.below (HBA.out.trans (hb.mono HBA.out.size)) _ _ HRR.out) (NRep.reads _ _ _ (nrep_zero w)) HSM.out (steprd_row hgr rfl (by simp)) HGN.out).mono ?_
                  rintro e w' ⟨rfl, h⟩
                  exact ⟨_, rfl, rfl, h⟩
                · rintro v w' ⟨rfl, h⟩
                  exact ⟨h, _, rfl, fun d hd b _ _ => by cases hd; rfl⟩
              | 30, hjq =>
                simp only [List.getElem?_toArray, List.getElem?_cons_zero, List.getElem?_cons_succ, Option.some.injEq] at hjq
                subst hjq
                refine OpOk.two ?_
                intro B a w hB hb hk
                obtain ⟨b0, hb0⟩ := hB
                have e70 : a.eval (.tmp 70) = .bool true := hk b0 hb0 70 (by decide)
                have eg : a.eval (.tmp 65) = .bool true := hk b0 hb0 65 (by decide)
                refine ⟨wanted_of rfl rfl eg, opwp_not rfl e70 ?_⟩
                exact ⟨Below.refl _ _, _, rfl, fun d hd b _ _ => by cases hd; rfl⟩
              | 31, hjq =>
                simp only [List.getElem?_toArray, List.getElem?_cons_zero, List.getElem?_cons_succ, Option.some.injEq] at hjq
                subst hjq
                refine OpOk.two ?_
                intro B a w hB hb hk
                obtain ⟨b0, hb0⟩ := hB
                have e65 : a.eval (.tmp 65) = .bool true := hk b0 hb0 65 (by decide)
                have e71 : a.eval (.tmp 71) = .bool false := hk b0 hb0 71 (by decide)
                have eg : a.eval (.tmp 61) = .bool false := hk b0 hb0 61 (by decide)
                refine ⟨wanted_of rfl rfl eg, opwp_pickT rfl e65 e71 ?_⟩
                exact ⟨Below.refl _ _, _, rfl, fun d hd b _ _ => by cases hd; rfl⟩
              | 32, hjq =>
                simp only [List.getElem?_toArray, List.getElem?_cons_zero, List.getElem?_cons_succ, Option.some.injEq] at hjq
                subst hjq
                refine OpOk.two ?_
                intro B a w hB hb hk
                obtain ⟨b0, hb0⟩ := hB
                have e61 : a.eval (.tmp 61) = .bool false := hk b0 hb0 61 (by decide)
                have e72 : a.eval (.tmp 72) = .bool false := hk b0 hb0 72 (by decide)
                refine ⟨rfl, opwp_pickF rfl e61 e72 ?_⟩
                exact ⟨Below.refl _ _, _, rfl, fun d hd b _ _ => by cases hd; rfl⟩
              | kq + 33, hjq => cases hjq
            intro f w9 hB hp
            exact ⟨rfl, f, rfl, hp _ (Nat.le_refl _) 73 (by decide), hB⟩
        intro f w9 hB e73
        simp only [puts, List.foldl, Act.put, List.setIfInBounds_toArray, List.set_cons_zero, List.set_cons_succ, e73]
        generalize f 41 = v41
        generalize f 42 = v42
        generalize f 43 = v43
        generalize f 44 = v44
        generalize f 45 = v45
        generalize f 46 = v46
        generalize f 47 = v47
        generalize f 48 = v48
        generalize f 49 = v49
        generalize f 50 = v50
        generalize f 51 = v51
        generalize f 52 = v52
        generalize f 53 = v53
        generalize f 54 = v54
        generalize f 55 = v55
        generalize f 56 = v56
        generalize f 57 = v57
        generalize f 58 = v58
        generalize f 59 = v59
        generalize f 60 = v60
        generalize f 61 = v61
        generalize f 62 = v62
        generalize f 63 = v63
        generalize f 64 = v64
        generalize f 65 = v65
        generalize f 66 = v66
        generalize f 67 = v67
        generalize f 68 = v68
        generalize f 69 = v69
        generalize f 70 = v70
        generalize f 71 = v71
        generalize f 72 = v72
        have h3s := below_row h3r hB
        have h5s := below_row h5r hB
        have HBS := Lib.hid (HBA.out.trans (hB.mono HBA.out.size))
        have HBY := Lib.hid (HBX.out.trans (hB.mono HBX.out.size))
        clear hB e73 h3r h5r HBA HBX hgr2 p0 p1 p2 p3 p4 p5 z0 z1 z2 z3 z4 z5 y0 y1 y2 y3 y4 y5 HKR HGA
        obtain ⟨ekd, enn, eu, es, eks, el, hKD⟩ : ∃ ekd enn eu es eks el, kidD (.mk kd nn u s ks l) i = .mk ekd enn eu es eks el := by
          cases kidD (.mk kd nn u s ks l) i
          exact ⟨_, _, _, _, _, _, rfl⟩
        have hxf := HXR.out
        rw [hKD] at hxf
        obtain ⟨B1, d1, B2, d2, xxs, hcs, -, hl2, hkids2⟩ := hxf.form
        simp only [List.cons.injEq, and_true] at hcs
        obtain ⟨-, -, -, -, -, hlast⟩ := hcs
        injection hlast with f1 f2 f3
        subst f1 f2 f3
        have HXK := Lib.hid (And.intro hl2 hkids2)
        have hkn : (kidsOf (kidD (.mk kd nn u s ks l) i)).length = el.length := by rw [hKD]; rfl
        have HKN := Lib.hid hkn
        have HKDI := Lib.hid hKD
        have hxb : el.length ≤ 9223372036854775807 := hl2.bound
        clear hxf hl2 hkids2 hkn hKD
        go_wp2_with fail
        go_loopw [7] (fun s7 wr => ∃ k : Nat, k ≤ el.length ∧ s7 = .int .i64 k ∧ Below w9.heap.size w9 wr) (fun s7 _ => el.length - (intOf s7).toNat)
        case atStart => exact ⟨0, by omega, rfl, Below.refl _ _⟩
        case round =>
          rename_i wr2
          obtain ⟨k, hk, rfl, hb2⟩ := hrel
          have HB9 := Lib.hid hb2
          have h3r := below_row h3s hb2
          have h5r := below_row h5s hb2
          have HBA := Lib.hid (HBS.out.trans (hb2.mono HBS.out.size))
          have HBX := Lib.hid (HBY.out.trans (hb2.mono HBY.out.size))
          obtain ⟨z0, z1, z2, z3, z4, z5⟩ := cells6 h3r
          obtain ⟨y0, y1, y2, y3, y4, y5⟩ := cells6 h5r
          by_cases h2 : k < el.length
          · have h2' : (k : Int) < (el.length : Int) := by omega
            have hkx : k < el.length := h2
            obtain ⟨gx, ox, k0, k1, k2, k3, k4, k5, k6, k7, k8, k9, hB2, hg0, hgr2, hrep, p0, p1, p2, p3, p4, p5⟩ := HXK.out.2.kid HXK.out.1 HBX.out k hkx
            subst hB2
            have HKR2 := Lib.hid (show RRep w7 (kidD (kidD (.mk kd nn u s ks l) i) k) [.int .i64 k0, .int .i64 k1, .int .u64 k2, .string k3, .slice k4 k5 k6, .slice k7 k8 k9] by
              rw [HKDI.out]
              have e : kidD (.mk ekd enn eu es eks el) k = el[k] := by
                show el.getD k _ = _
                rw [List.getD_eq_getElem?_getD, List.getElem?_eq_getElem hkx]
                rfl
              rw [e]
              exact hrep)
            have HGG := Lib.hid (show getR (.mk kd nn u s ks l) [sAt i, sAt k] = (kidD (kidD (.mk kd nn u s ks l) i) k, 0) from getR_atat _ i k hil (by rw [HKN.out]; exact hkx))
            clear hrep hb2
            go_upto_region 15 with fail
            refine wp_region_eachP (n := 105) [81, 82, 83, 84, 85, 86, 87, 88, 89, 90, 91, 92, 93] (pa15 P3 i kd nn u s ks l A1 c1 (some ⟨g, og, none⟩) c2 P5 k gx ox el.length c2' k0 k1 k2 k3 k4 k5 k6 k7 k8 k9) (by kernel_rfl) (by kernel_rfl) rfl (by kernel_rfl) (pa15_st P3 i kd nn u s ks l A1 c1 (some ⟨g, og, none⟩) c2 P5 k gx ox el.length c2' k0 k1 k2 k3 k4 k5 k6 k7 k8 k9) ?_ ?_ ?_
            · intro b hb t ht
              unfold pa15
              split
              · rfl
              · rfl
              · rfl
              · rfl
              · exact absurd rfl (ht 0 _ rfl)
              · exact absurd rfl (ht 1 _ rfl)
              · exact absurd rfl (ht 2 _ rfl)
              · exact absurd rfl (ht 3 _ rfl)
              · exact absurd rfl (ht 4 _ rfl)
              · exact absurd rfl (ht 5 _ rfl)
              · exact absurd rfl (ht 6 _ rfl)
              · exact absurd rfl (ht 7 _ rfl)
              · exact absurd rfl (ht 8 _ rfl)
              · exact absurd rfl (ht 9 _ rfl)
              · exact absurd rfl (ht 10 _ rfl)
              · exact absurd rfl (ht 11 _ rfl)
              · exact absurd rfl (ht 12 _ rfl)
              · trivial
            · intro jq oq hjq
              match jq, hjq with
              | 0, hjq =>
                simp only [List.getElem?_toArray, List.getElem?_cons_zero, List.getElem?_cons_succ, Option.some.injEq] at hjq
                subst hjq
                intro B a w hB hb hk
                obtain ⟨b0, hb0⟩ := hB
                have e3 : a.eval (.tmp 3) = .pointer (some ⟨P3, 0, none⟩) := hk b0 hb0 3 (by decide)
                refine ⟨rfl, opwp_load6 rfl e3 (below_row h3r hb) ?_⟩
                exact ⟨Below.refl _ _, _, rfl, fun d hd b _ _ => by cases hd; rfl⟩
              | 1, hjq =>
                simp only [List.getElem?_toArray, List.getElem?_cons_zero, List.getElem?_cons_succ, Option.some.injEq] at hjq
                subst hjq
                intro B a w hB hb hk
                obtain ⟨b0, hb0⟩ := hB
                have e5 : a.eval (.tmp 5) = .pointer (some ⟨P5, 0, none⟩) := hk b0 hb0 5 (by decide)
                refine ⟨rfl, opwp_fa5 rfl e5 ?_⟩
                exact ⟨Below.refl _ _, _, rfl, fun d hd b _ _ => by cases hd; rfl⟩
              | 2, hjq =>
                simp only [List.getElem?_toArray, List.getElem?_cons_zero, List.getElem?_cons_succ, Option.some.injEq] at hjq
                subst hjq
                intro B a w hB hb hk
                obtain ⟨b0, hb0⟩ := hB
                have e82 : a.eval (.tmp 82) = .pointer (some ⟨P5, 5, none⟩) := hk b0 hb0 82 (by decide)
                refine ⟨rfl, opwp_ldL rfl e82 (cells6 (below_row h5r hb)).2.2.2.2.2 ?_⟩
                exact ⟨Below.refl _ _, _, rfl, fun d hd b _ _ => by cases hd; rfl⟩
              | 3, hjq =>
                simp only [List.getElem?_toArray, List.getElem?_cons_zero, List.getElem?_cons_succ, Option.some.injEq] at hjq
                subst hjq
                intro B a w hB hb hk
                obtain ⟨b0, hb0⟩ := hB
                have e7 : a.eval (.tmp 7) = .int .i64 (k : Nat) := hk b0 hb0 7 (by decide)
                refine ⟨rfl, opwp_move rfl e7 ?_⟩
                exact ⟨Below.refl _ _, _, rfl, fun d hd b _ _ => by cases hd; rfl⟩
              | 4, hjq =>
                simp only [List.getElem?_toArray, List.getElem?_cons_zero, List.getElem?_cons_succ, Option.some.injEq] at hjq
                subst hjq
                intro B a w hB hb hk
                obtain ⟨b0, hb0⟩ := hB
                have e83 : a.eval (.tmp 83) = .slice (some ⟨gx, ox, none⟩) el.length c2' := hk b0 hb0 83 (by decide)
                have e84 : a.eval (.tmp 84) = .int .i64 (k : Nat) := hk b0 hb0 84 (by decide)
                refine ⟨rfl, opwp_iaN rfl e83 e84 hkx ?_⟩
                exact ⟨Below.refl _ _, _, rfl, fun d hd b _ _ => by cases hd; rfl⟩
              | 5, hjq =>
                simp only [List.getElem?_toArray, List.getElem?_cons_zero, List.getElem?_cons_succ, Option.some.injEq] at hjq
                subst hjq
                intro B a w hB hb hk
                obtain ⟨b0, hb0⟩ := hB
                have e85 : a.eval (.tmp 85) = .pointer (some ⟨gx, ox + k * 6, none⟩) := hk b0 hb0 85 (by decide)
                refine ⟨rfl, opwp_ldN rfl e85 ((hb.cell (p := ⟨gx, ox + k * 6, none⟩) hgr2).trans p0) ((hb.cell (p := ⟨gx, ox + k * 6 + 1, none⟩) hgr2).trans p1) ((hb.cell (p := ⟨gx, ox + k * 6 + 2, none⟩) hgr2).trans p2) ((hb.cell (p := ⟨gx, ox + k * 6 + 3, none⟩) hgr2).trans p3) ((hb.cell (p := ⟨gx, ox + k * 6 + 4, none⟩) hgr2).trans p4) ((hb.cell (p := ⟨gx, ox + k * 6 + 5, none⟩) hgr2).trans p5) ?_⟩
                exact ⟨Below.refl _ _, _, rfl, fun d hd b _ _ => by cases hd; rfl⟩
              | 6, hjq =>
                simp only [List.getElem?_toArray, List.getElem?_cons_zero, List.getElem?_cons_succ, Option.some.injEq] at hjq
                subst hjq
                intro B a w hB hb hk
                obtain ⟨b0, hb0⟩ := hB
                have e4 : a.eval (.tmp 4) = .int .i64 (i : Nat) := hk b0 hb0 4 (by decide)
                refine ⟨rfl, opwp_move rfl e4 ?_⟩
                exact ⟨Below.refl _ _, _, rfl, fun d hd b _ _ => by cases hd; rfl⟩
              | 7, hjq =>
                simp only [List.getElem?_toArray, List.getElem?_cons_zero, List.getElem?_cons_succ, Option.some.injEq] at hjq
                subst hjq
                intro B a w hB hb hk
                obtain ⟨b0, hb0⟩ := hB
                have e87 : a.eval (.tmp 87) = .int .i64 (i : Nat) := hk b0 hb0 87 (by decide)
                refine ⟨rfl, opwp_call (fun v w' => v = .agg #[.string ⟨#[]⟩, .int .i64 (i : Nat), .bool false] ∧ Below w.heap.size w w') (exec_call [a.eval (.tmp 87)] Tryz.func30 (by kernel_rfl) rfl rfl rfl) ?_ ?_⟩
                · rw [e87]
                  refine (at8_any (i : Nat) w).mono ?_
                  rintro e w' ⟨rfl, h⟩
                  exact ⟨_, rfl, rfl, h⟩
                · rintro v w' ⟨rfl, h⟩
                  exact ⟨h, _, rfl, fun d hd b _ _ => by cases hd; rfl⟩
              | 8, hjq =>
                simp only [List.getElem?_toArray, List.getElem?_cons_zero, List.getElem?_cons_succ, Option.some.injEq] at hjq
                subst hjq
                intro B a w hB hb hk
                obtain ⟨b0, hb0⟩ := hB
                have e7 : a.eval (.tmp 7) = .int .i64 (k : Nat) := hk b0 hb0 7 (by decide)
                refine ⟨rfl, opwp_move rfl e7 ?_⟩
                exact ⟨Below.refl _ _, _, rfl, fun d hd b _ _ => by cases hd; rfl⟩
              | 9, hjq =>
                simp only [List.getElem?_toArray, List.getElem?_cons_zero, List.getElem?_cons_succ, Option.some.injEq] at hjq
                subst hjq
                intro B a w hB hb hk
                obtain ⟨b0, hb0⟩ := hB
                have e89 : a.eval (.tmp 89) = .int .i64 (k : Nat) := hk b0 hb0 89 (by decide)
                refine ⟨rfl, opwp_call (fun v w' => v = .agg #[.string ⟨#[]⟩, .int .i64 (k : Nat), .bool false] ∧ Below w.heap.size w w') (exec_call [a.eval (.tmp 89)] Tryz.func30 (by kernel_rfl) rfl rfl rfl) ?_ ?_⟩
                · rw [e89]
                  refine (at8_any (k : Nat) w).mono ?_
                  rintro e w' ⟨rfl, h⟩
                  exact ⟨_, rfl, rfl, h⟩
                · rintro v w' ⟨rfl, h⟩
                  exact ⟨h, _, rfl, fun d hd b _ _ => by cases hd; rfl⟩
              | 10, hjq =>
                simp only [List.getElem?_toArray, List.getElem?_cons_zero, List.getElem?_cons_succ, Option.some.injEq] at hjq
                subst hjq
                intro B a w hB hb hk
                obtain ⟨b0, hb0⟩ := hB
                have e88 : a.eval (.tmp 88) = .agg #[.string ⟨#[]⟩, .int .i64 (i : Nat), .bool false] := hk b0 hb0 88 (by decide)
                have e90 : a.eval (.tmp 90) = .agg #[.string ⟨#[]⟩, .int .i64 (k : Nat), .bool false] := hk b0 hb0 90 (by decide)
                refine ⟨rfl, opwp_bsS2 rfl e88 e90 ?_⟩
                refine ⟨(Below.refl _ _).alloc (Nat.le_refl _) _, _, rfl, fun d hd b _ hbb => ?_⟩
                cases hd
                rw [World.size_alloc] at hbb
                exact ⟨w.heap.size, rfl, by omega, heap_alloc_new _ _⟩
              | 11, hjq =>
                simp only [List.getElem?_toArray, List.getElem?_cons_zero, List.getElem?_cons_succ, Option.some.injEq] at hjq
                subst hjq
                intro B a w hB hb hk
                obtain ⟨b0, hb0⟩ := hB
                have e81 : a.eval (.tmp 81) = .agg #[.int .i64 kd, .int .i64 nn, .int .u64 u, .string ⟨s.toArray⟩, .slice A1 ks.length c1, .slice (some ⟨g, og, none⟩) l.length c2] := hk b0 hb0 81 (by decide)
                have e86 : a.eval (.tmp 86) = .agg #[.int .i64 k0, .int .i64 k1, .int .u64 k2, .string k3, .slice k4 k5 k6, .slice k7 k8 k9] := hk b0 hb0 86 (by decide)
                obtain ⟨g0, er, hg0, hgr⟩ : ∃ g, a.eval (.tmp 91) = .slice (some ⟨g, 0, none⟩) 2 2 ∧ g ≠ b0 ∧ w.heap[g]? = some (.cells #[.string ⟨#[]⟩, .int .i64 (i : Nat), .bool false, .string ⟨#[]⟩, .int .i64 (k : Nat), .bool false] 50 (0, 0)) := hk b0 hb0 91 (by decide)
                refine ⟨rfl, opwp_call (fun v w' => v = .bool true ∧ Below w.heap.size w w') (exec_call [a.eval (.tmp 81), a.eval (.tmp 86), .int .i64 0, a.eval (.tmp 91)] Tryz.func31 (by kernel_rfl) rfl rfl rfl) ?_ ?_⟩
                · rw [e81, e86, er]
                  refine (leads8_any (.mk kd nn u s ks l) (kidD (kidD (.mk kd nn u s ks l) i) k) 0 [sAt i, sAt k] w _ _ _ _ _ _ _ _ _ _ _ _ _ _ (RRep.below (HBA.out.trans (hb.mono HBA.out.size)) _ _ HRR.out) (RRep.below (HBX.out.trans (hb.mono HBX.out.size)) _ _ HKR2.out) HSM.out (steprd_row hgr rfl (by simp)) HGG.out).mono ?_
                  rintro e w' ⟨rfl, h⟩
                  exact ⟨_, rfl, rfl, h⟩
                · rintro v w' ⟨rfl, h⟩
                  exact ⟨h, _, rfl, fun d hd b _ _ => by cases hd; rfl⟩
              | 12, hjq =>
                simp only [List.getElem?_toArray, List.getElem?_cons_zero, List.getElem?_cons_succ, Option.some.injEq] at hjq
                subst hjq
                intro B a w hB hb hk
                obtain ⟨b0, hb0⟩ := hB
                have e92 : a.eval (.tmp 92) = .bool true := hk b0 hb0 92 (by decide)
                refine ⟨rfl, opwp_not rfl e92 ?_⟩
                exact ⟨Below.refl _ _, _, rfl, fun d hd b _ _ => by cases hd; rfl⟩
              | kq + 13, hjq => cases hjq
            rintro f w11 hB hp
            have e93 : f 93 = .bool false := hp _ (Nat.le_refl _) 93 (by decide)
            simp only [puts, List.foldl, Act.put, List.setIfInBounds_toArray, List.set_cons_zero, List.set_cons_succ, e93]
            generalize f 81 = v81
            generalize f 82 = v82
            generalize f 83 = v83
            generalize f 84 = v84
            generalize f 85 = v85
            generalize f 86 = v86
            generalize f 87 = v87
            generalize f 88 = v88
            generalize f 89 = v89
            generalize f 90 = v90
            generalize f 91 = v91
            generalize f 92 = v92
            have HFIN := Lib.hid (show Below w9.heap.size w9 w11 from HB9.out.trans (hB.mono HB9.out.size))
            clear hB hp e93 h3r h5r z0 z1 z2 z3 z4 z5 y0 y1 y2 y3 y4 y5 p0 p1 p2 p3 p4 p5
            go_wp2_with fail
            go_roundw
            case rel => exact ⟨k + 1, by omega, by go_num, HFIN.out⟩
            case measure => simp only [intOf]; omega
          · have h2' : ¬ (k : Int) < (el.length : Int) := by omega
            have HFIN := Lib.hid HBA.out
            clear h3r h5r
            go_wp2_with fail
            go_roundw
            case rel => exact ⟨i + 1, by omega, by go_num, HFIN.out⟩
            case measure => simp only [intOf]; omega
      · have h1' : ¬ (i : Int) < (l.length : Int) := by omega
        have HGE := Lib.hid (show getR (.mk kd nn u s ks l) [sAt (l.length : Nat)] = (zT, 80) from getR_end (.mk kd nn u s ks l))
        go_upto_region 17 with fail
        refine wp_region_eachP (n := 105) [94, 95, 96, 97, 98, 99, 100, 101, 102, 103, 104, 2] (pa17 P3 kd nn u s ks l A1 c1 A2 c2) (by kernel_rfl) (by kernel_rfl) rfl (by kernel_rfl) (pa17_st P3 kd nn u s ks l A1 c1 A2 c2) ?_ ?_ ?_
        · intro b hb t ht
          unfold pa17
          split
          · rfl
          · exact absurd rfl (ht 0 _ rfl)
          · exact absurd rfl (ht 1 _ rfl)
          · exact absurd rfl (ht 2 _ rfl)
          · exact absurd rfl (ht 3 _ rfl)
          · exact absurd rfl (ht 4 _ rfl)
          · exact absurd rfl (ht 5 _ rfl)
          · exact absurd rfl (ht 6 _ rfl)
          · exact absurd rfl (ht 7 _ rfl)
          · exact absurd rfl (ht 8 _ rfl)
          · exact absurd rfl (ht 9 _ rfl)
          · exact absurd rfl (ht 10 _ rfl)
          · exact absurd rfl (ht 11 _ rfl)
          · trivial
        · intro jq oq hjq
          match jq, hjq with
          | 0, hjq =>
            simp only [List.getElem?_toArray, List.getElem?_cons_zero, List.getElem?_cons_succ, Option.some.injEq] at hjq
            subst hjq
            intro B a w hB hb hk
            obtain ⟨b0, hb0⟩ := hB
            have e3 : a.eval (.tmp 3) = .pointer (some ⟨P3, 0, none⟩) := hk b0 hb0 3 (by decide)
            refine ⟨rfl, opwp_load6 rfl e3 (below_row h3r hb) ?_⟩
            exact ⟨Below.refl _ _, _, rfl, fun d hd b _ _ => by cases hd; rfl⟩
          | 1, hjq =>
            simp only [List.getElem?_toArray, List.getElem?_cons_zero, List.getElem?_cons_succ, Option.some.injEq] at hjq
            subst hjq
            intro B a w hB hb hk
            obtain ⟨b0, hb0⟩ := hB
            refine ⟨rfl, opwp_build0 rfl ?_⟩
            exact ⟨Below.refl _ _, _, rfl, fun d hd b _ _ => by cases hd; rfl⟩
          | 2, hjq =>
            simp only [List.getElem?_toArray, List.getElem?_cons_zero, List.getElem?_cons_succ, Option.some.injEq] at hjq
            subst hjq
            intro B a w hB hb hk
            obtain ⟨b0, hb0⟩ := hB
            have e3 : a.eval (.tmp 3) = .pointer (some ⟨P3, 0, none⟩) := hk b0 hb0 3 (by decide)
            refine ⟨rfl, opwp_fa5 rfl e3 ?_⟩
            exact ⟨Below.refl _ _, _, rfl, fun d hd b _ _ => by cases hd; rfl⟩
          | 3, hjq =>
            simp only [List.getElem?_toArray, List.getElem?_cons_zero, List.getElem?_cons_succ, Option.some.injEq] at hjq
            subst hjq
            intro B a w hB hb hk
            obtain ⟨b0, hb0⟩ := hB
            have e96 : a.eval (.tmp 96) = .pointer (some ⟨P3, 5, none⟩) := hk b0 hb0 96 (by decide)
            refine ⟨rfl, opwp_ldL rfl e96 (cells6 (below_row h3r hb)).2.2.2.2.2 ?_⟩
            exact ⟨Below.refl _ _, _, rfl, fun d hd b _ _ => by cases hd; rfl⟩
          | 4, hjq =>
            simp only [List.getElem?_toArray, List.getElem?_cons_zero, List.getElem?_cons_succ, Option.some.injEq] at hjq
            subst hjq
            intro B a w hB hb hk
            obtain ⟨b0, hb0⟩ := hB
            have e97 : a.eval (.tmp 97) = .slice A2 l.length c2 := hk b0 hb0 97 (by decide)
            refine ⟨rfl, opwp_len rfl e97 ?_⟩
            exact ⟨Below.refl _ _, _, rfl, fun d hd b _ _ => by cases hd; rfl⟩
          | 5, hjq =>
            simp only [List.getElem?_toArray, List.getElem?_cons_zero, List.getElem?_cons_succ, Option.some.injEq] at hjq
            subst hjq
            intro B a w hB hb hk
            obtain ⟨b0, hb0⟩ := hB
            have e98 : a.eval (.tmp 98) = .int .i64 (l.length : Nat) := hk b0 hb0 98 (by decide)
            refine ⟨rfl, opwp_call (fun v w' => v = .agg #[.string ⟨#[]⟩, .int .i64 (l.length : Nat), .bool false] ∧ Below w.heap.size w w') (exec_call [a.eval (.tmp 98)] Tryz.func30 (by kernel_rfl) rfl rfl rfl) ?_ ?_⟩
            · rw [e98]
              refine (at8_any (l.length : Nat) w).mono ?_
              rintro e w' ⟨rfl, h⟩
              exact ⟨_, rfl, rfl, h⟩
            · rintro v w' ⟨rfl, h⟩
              exact ⟨h, _, rfl, fun d hd b _ _ => by cases hd; rfl⟩
          | 6, hjq =>
            simp only [List.getElem?_toArray, List.getElem?_cons_zero, List.getElem?_cons_succ, Option.some.injEq] at hjq
            subst hjq
            intro B a w hB hb hk
            obtain ⟨b0, hb0⟩ := hB
            have e99 : a.eval (.tmp 99) = .agg #[.string ⟨#[]⟩, .int .i64 (l.length : Nat), .bool false] := hk b0 hb0 99 (by decide)
            refine ⟨rfl, opwp_bsS1 rfl e99 ?_⟩
            refine ⟨(Below.refl _ _).alloc (Nat.le_refl _) _, _, rfl, fun d hd b _ hbb => ?_⟩
            cases hd
            rw [World.size_alloc] at hbb
            exact ⟨w.heap.size, rfl, by omega, heap_alloc_new _ _⟩
          | 7, hjq =>
            simp only [List.getElem?_toArray, List.getElem?_cons_zero, List.getElem?_cons_succ, Option.some.injEq] at hjq
            subst hjq
            intro B a w hB hb hk
            obtain ⟨b0, hb0⟩ := hB
            have e94 : a.eval (.tmp 94) = .agg #[.int .i64 kd, .int .i64 nn, .int .u64 u, .string ⟨s.toArray⟩, .slice A1 ks.length c1, .slice A2 l.length c2] := hk b0 hb0 94 (by decide)
            have e95 : a.eval (.tmp 95) = .agg #[.int .i64 0, .int .i64 0, .int .u64 0, .string ⟨#[]⟩, .slice none 0 0, .slice none 0 0] := hk b0 hb0 95 (by decide)
            obtain ⟨g0, er, hg0, hgr⟩ : ∃ g, a.eval (.tmp 100) = .slice (some ⟨g, 0, none⟩) 1 1 ∧ g ≠ b0 ∧ w.heap[g]? = some (.cells #[.string ⟨#[]⟩, .int .i64 (l.length : Nat), .bool false] 50 (0, 0)) := hk b0 hb0 100 (by decide)
            refine ⟨rfl, opwp_call (fun v w' => v = .bool true ∧ Below w.heap.size w w') (exec_call [a.eval (.tmp 94), a.eval (.tmp 95), .int .i64 80, a.eval (.tmp 100)] Tryz.func31 (by kernel_rfl) rfl rfl rfl) ?_ ?_⟩
            · rw [e94, e95, er]
              refine (leads8_any (.mk kd nn u s ks l) zT 80 [sAt (l.length : Nat)] w _ _ _ _ _ _ _ _ _ _ _ _ _ _ (RRep.below (HBA.out.trans (hb.mono HBA.out.size)) _ _ HRR.out) (NRep.reads _ _ _ (nrep_zero w)) HSM.out (steprd_row hgr rfl (by simp)) HGE.out).mono ?_
              rintro e w' ⟨rfl, h⟩
              exact ⟨_, rfl, rfl, h⟩
            · rintro v w' ⟨rfl, h⟩
              exact ⟨h, _, rfl, fun d hd b _ _ => by cases hd; rfl⟩
          | 8, hjq =>
            simp only [List.getElem?_toArray, List.getElem?_cons_zero, List.getElem?_cons_succ, Option.some.injEq] at hjq
            subst hjq
            intro B a w hB hb hk
            obtain ⟨b0, hb0⟩ := hB
            have e101 : a.eval (.tmp 101) = .bool true := hk b0 hb0 101 (by decide)
            refine ⟨rfl, opwp_move rfl e101 ?_⟩
            exact ⟨Below.refl _ _, _, rfl, fun d hd b _ _ => by cases hd; rfl⟩
          | 9, hjq =>
            simp only [List.getElem?_toArray, List.getElem?_cons_zero, List.getElem?_cons_succ, Option.some.injEq] at hjq
            subst hjq
            intro B a w hB hb hk
            obtain ⟨b0, hb0⟩ := hB
            have eg : a.eval (.tmp 102) = .bool true := hk b0 hb0 102 (by decide)
            refine ⟨wanted_of rfl rfl eg, opwp_call (fun v w' => v = .bool true ∧ Below w.heap.size w w') (exec_call [] Tryz.func17 (by kernel_rfl) rfl rfl rfl) ?_ ?_⟩
            · refine (works_any w w ⟨Below.refl _ _, (HLW.out.next hb).t⟩).mono ?_
              rintro e w' ⟨rfl, h⟩
              exact ⟨_, rfl, rfl, h.b⟩
            · rintro v w' ⟨rfl, h⟩
              exact ⟨h, _, rfl, fun d hd b _ _ => by cases hd; rfl⟩
          | 10, hjq =>
            simp only [List.getElem?_toArray, List.getElem?_cons_zero, List.getElem?_cons_succ, Option.some.injEq] at hjq
            subst hjq
            intro B a w hB hb hk
            obtain ⟨b0, hb0⟩ := hB
            have e102 : a.eval (.tmp 102) = .bool true := hk b0 hb0 102 (by decide)
            have e103 : a.eval (.tmp 103) = .bool true := hk b0 hb0 103 (by decide)
            refine ⟨rfl, opwp_pickT rfl e102 e103 ?_⟩
            exact ⟨Below.refl _ _, _, rfl, fun d hd b _ _ => by cases hd; rfl⟩
          | 11, hjq =>
            simp only [List.getElem?_toArray, List.getElem?_cons_zero, List.getElem?_cons_succ, Option.some.injEq] at hjq
            subst hjq
            intro B a w hB hb hk
            obtain ⟨b0, hb0⟩ := hB
            have e104 : a.eval (.tmp 104) = .bool true := hk b0 hb0 104 (by decide)
            refine ⟨rfl, opwp_assign rfl e104 ?_⟩
            exact ⟨Below.refl _ _, _, rfl, fun d hd b _ _ => by cases hd; rfl⟩
          | kq + 12, hjq => cases hjq
        rintro f w11 hB hp
        have e2 : f 2 = .bool true := hp _ (Nat.le_refl _) 2 (by decide)
        simp only [puts, List.foldl, Act.put, List.setIfInBounds_toArray, List.set_cons_zero, List.set_cons_succ, e2]
        have HFIN := Lib.hid ((HLW.out.next hB).b)
        clear hB hp e2 h3r z0 z1 z2 z3 z4 z5
        go_wp2_with fail
        go_ret
        exact ⟨rfl, HFIN.out⟩
  · have h0' : (ck == 0) = false := by simpa using h0
    have HW := Lib.hid (works_any w wB (HL0.out.next HBB.out))
    clear h0
    go_wp2_with fail
    refine HW.out.mono ?_
    rintro e w5 ⟨rfl, h5⟩
    have H5 := Lib.hid h5
    clear h5
    go_wp2_with fail
    go_ret
    exact ⟨rfl, H5.out.b⟩
end
end Go.Proofs.YtlblddeemkefkaaGreatDoor
