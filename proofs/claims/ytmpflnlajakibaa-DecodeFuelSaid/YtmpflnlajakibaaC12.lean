/- The plain model of decode: no program here. Trees of nodes in memory. The state of decode.walker; the walks of tell and target. -/
import Derived.Test.YtmpflnlajakibaaA6
import Derived.Laws.OwnMore
namespace Go.Proofs.Ytmpflnlajakibaa
set_option linter.unusedVariables false
set_option linter.unusedSimpArgs false
set_option linter.unusedSectionVars false
section
open Go.RowKit
/-- A tree: kind, signed, unsigned, string, keys, children. -/
inductive DT where
  | mk (kd n u : Int) (s : List UInt8) (ks : List (List UInt8)) (l : List DT)
def kindsD : List Int := [1, 3, 4, 0, 5, 6, 8, 9, 0, 17, 10, 11, 12, 0, 13, 0, 15, 16, 0, 15, 16, 0, 15, 16, 0, 7, 2, 0, 0, 0, 0, 0, 0, 0, 0, 0, 14]
def kindD (t : Int) : Int := if t < 0 then 0 else kindsD.getD t.toNat 0
/-- The signed and the unsigned number at a reference. -/
def intV (L : List UInt8) (p q t k : Int) : Int :=
  if splaceE L p q t k ≠ 0 then 0 else if t = 26 then min (loadV L (splaceA L p q t k) (splaceW L p q t k)) 1 else sext (splaceW L p q t k) (loadV L (splaceA L p q t k) (splaceW L p q t k))
def uintV (L : List UInt8) (p q t k : Int) : Int := if splaceE L p q t k ≠ 0 then 0 else loadV L (splaceA L p q t k) (splaceW L p q t k)
/-- A result: a failure (offset, error), or a value. -/
abbrev DR (α : Type) := Except (Int × Int) α
def kloopD (D : List UInt8) (p q k : Int) : Nat → Int → List (List UInt8) → DR (List (List UInt8))
  | 0, _, acc => .ok acc
  | r + 1, i, acc =>
    if tgtB D (latP D p q 14 k i) (latQ D p q 14 k i) (latT D p q 14 k i) (latW D p q 14 k i) (lFrom D p q 14 k) = false then .error (latP D p q 14 k i, 211)
    else if findE D (latP D p q 14 k i) (latQ D p q 14 k i) 4 (latW D p q 14 k i) true ≠ 0 then .error (latP D p q 14 k i - loadV D (latP D p q 14 k i) (latQ D p q 14 k i), findE D (latP D p q 14 k i) (latQ D p q 14 k i) 4 (latW D p q 14 k i) true)
    else if 0 < i ∧ lessB (acc.getD (i - 1).toNat []) (findS D (latP D p q 14 k i) (latQ D p q 14 k i) 4 (latW D p q 14 k i) true) = false then .error (latP D p q 14 k i, 215)
    else kloopD D p q k r (i + 1) (acc ++ [findS D (latP D p q 14 k i) (latQ D p q 14 k i) 4 (latW D p q 14 k i) true])
def krefD (D : List UInt8) (k f : Int) : DR Int :=
  if f < loadV D f k then .error (f, 211) else if wideB (kwOf D k f) = false then .error (f + k, 212)
  else if tgtB D f k 14 (kwOf D k f) f = false then .error (f, 211) else .ok (f - loadV D f k)
def keysD (D : List UInt8) (k f many : Int) : DR (List (List UInt8)) :=
  match krefD D k f with
  | .error x => .error x
  | .ok a => if lfindE D f k 14 (kwOf D k f) ≠ 0 then .error (a, lfindE D f k 14 (kwOf D k f))
    else if lCnt D f k 14 (kwOf D k f) ≠ many then .error (a, 214)
    else kloopD D f k (kwOf D k f) many.toNat 0 []
/-- The decoding of a reference: position, parent's width, type, width, limit, depth, fuel. -/
abbrev DecF := Int → Int → Int → Int → Int → Int → Int → DR (DT × Int)
def vloopD (dec : DecF) (D : List UInt8) (p q t k a deep : Int) : Nat → Int → List DT → Int → DR (List DT × Int)
  | 0, _, acc, fu => .ok (acc, fu)
  | r + 1, i, acc, fu =>
    if latE D p q t k i ≠ 0 then .error (a + lCnt D p q t k * k + i, latE D p q t k i)
    else match dec (latP D p q t k i) (latQ D p q t k i) (latT D p q t k i) (latW D p q t k i) (lFrom D p q t k) (deep + 1) fu with
      | .error x => .error x
      | .ok (y, fu') => vloopD dec D p q t k a deep r (i + 1) (acc ++ [y]) fu'
def vecD (dec : DecF) (D : List UInt8) (p q t k a deep fu : Int) : DR (DT × Int) :=
  if lfindE D p q t k ≠ 0 then .error (a, lfindE D p q t k)
  else match (if t = 9 then keysD D k (lFrom D p q t k) (lCnt D p q t k) else .ok []) with
    | .error x => .error x
    | .ok ks => match vloopD dec D p q t k a deep (lCnt D p q t k).toNat 0 [] fu with
      | .error x => .error x
      | .ok (l, fu') => .ok (.mk (kindD t) 0 0 [] ks l, fu')
def bodyD (dec : DecF) (D : List UInt8) (p q t k a deep fu : Int) : DR (DT × Int) :=
  if t = 0 then .ok (.mk (kindD t) 0 0 [] [] [], fu)
  else if t = 1 ∨ t = 6 ∨ t = 26 then (if splaceE D p q t k ≠ 0 then .error (a, splaceE D p q t k) else .ok (.mk (kindD t) (intV D p q t k) 0 [] [] [], fu))
  else if t = 2 ∨ t = 7 then (if splaceE D p q t k ≠ 0 then .error (a, splaceE D p q t k) else .ok (.mk (kindD t) 0 (uintV D p q t k) [] [] [], fu))
  else if t = 4 ∨ t = 5 ∨ t = 25 then (if findE D p q t k true ≠ 0 then .error (a, findE D p q t k true) else .ok (.mk (kindD t) 0 0 (findS D p q t k true) [] [], fu))
  else vecD dec D p q t k a deep fu
def decN (D : List UInt8) (dp : Int) : Nat → DecF
  | 0 => fun p _ _ _ _ _ _ => .error (p, 260)
  | g + 1 => fun p q t k lim deep fu =>
    if fu = 0 then .error (p, 260) else if dp < deep then .error (p, 61)
    else if inlineB t = false ∧ tgtB D p q t k lim = false then .error (p, 211)
    else bodyD (decN D dp g) D p q t k (if inlineB t then p else p - loadV D p q) deep (fu - 1)
/-- A result of Tree and Doc: the tree, the fuel left, the offset, the error. -/
abbrev DO := DT × Int × Int × Int
def zeroT : DT := .mk 0 0 0 [] [] []
def treeD (D : List UInt8) (dp fuel : Int) (p q t k : Int) : DO :=
  if mayE D.length p q t k ≠ 0 then (zeroT, 0, 0, mayE D.length p q t k)
  else match decN D dp (max fuel 0).toNat p q t k p 1 (max fuel 0) with
    | .error (a, e) => (zeroT, 0, a, e)
    | .ok (T, f) => (T, f, 0, 0)
def docD (D : List UInt8) (fuel : Int) : DO :=
  if rootE D.length (lastD D 1) (lastD D 2) = 20 then (zeroT, 0, D.length - 2, 20)
  else if rootE D.length (lastD D 1) (lastD D 2) ≠ 0 then (zeroT, 0, 0, rootE D.length (lastD D 1) (lastD D 2))
  else treeD D 64 fuel (rootP D.length (lastD D 1) (lastD D 2)) (rootQ D.length (lastD D 1) (lastD D 2)) (rootT D.length (lastD D 1) (lastD D 2)) (rootW D.length (lastD D 1) (lastD D 2))
/-- The block of a slice that is its own, as a list. -/
def blkL (v : Value) : List Nat := v.ownBlock.toList
def nodeC (kd n u : Int) (s : List UInt8) (kv lv : Value) : List Value := [.int .i64 kd, .int .i64 n, .int .u64 u, strV s, kv, lv]
mutual
/-- The cells of a node in memory, and the blocks that hold what it refers to. -/
def NRep (w : World) : DT → List Value → List Nat → Prop
  | .mk kd n u s ks l, cs, bs => ∃ kv lv xs bl, cs = nodeC kd n u s kv lv ∧ w.ownsRow 0 9 1 kv ks.length (ks.map strV) ∧ w.ownsRow 0 44 6 lv l.length xs ∧ NReps w l xs bl ∧ bs = blkL kv ++ (blkL lv ++ bl)
def NReps (w : World) : List DT → List Value → List Nat → Prop
  | [], xs, bs => xs = [] ∧ bs = []
  | t :: ts, xs, bs => ∃ c b xs' bs', NRep w t c b ∧ NReps w ts xs' bs' ∧ xs = c ++ xs' ∧ bs = b ++ bs'
end
theorem own_same2 {w w' : World} {B : Nat} {ty : TypeId} {sz m : Nat} {v : Value} {xs : List Value} (h : w.ownsRow B ty sz v m xs) (hk : ∀ i ∈ blkL v, w'.heap[i]? = w.heap[i]?) : w'.ownsRow B ty sz v m xs := by
  refine ⟨h.1, ?_⟩
  rcases h.2 with hn | ⟨g, c, cur, rfl, hb, hg, rest⟩
  · exact .inl hn
  · exact .inr ⟨g, c, cur, rfl, hb, (hk g (by simp [blkL, Value.ownBlock])).trans hg, rest⟩
mutual
theorem NRep.same {w w' : World} : ∀ (T : DT) (cs : List Value) (bs : List Nat), NRep w T cs bs → (∀ i ∈ bs, w'.heap[i]? = w.heap[i]?) → NRep w' T cs bs
  | .mk kd n u s ks l, cs, bs, h, hk => by
    rw [NRep] at h ⊢
    obtain ⟨kv, lv, xs, bl, h1, h2, h3, h4, rfl⟩ := h
    exact ⟨kv, lv, xs, bl, h1, own_same2 h2 fun i hi => hk i (by simp [hi]), own_same2 h3 fun i hi => hk i (by simp [hi]), NReps.same l xs bl h4 fun i hi => hk i (by simp [hi]), rfl⟩
theorem NReps.same {w w' : World} : ∀ (l : List DT) (xs : List Value) (bs : List Nat), NReps w l xs bs → (∀ i ∈ bs, w'.heap[i]? = w.heap[i]?) → NReps w' l xs bs
  | [], xs, bs, h, _ => by rw [NReps] at h ⊢; exact h
  | t :: ts, xs, bs, h, hk => by
    rw [NReps] at h ⊢
    obtain ⟨c, b, xs', bs', h1, h2, rfl, rfl⟩ := h
    exact ⟨c, b, xs', bs', NRep.same t c b h1 fun i hi => hk i (by simp [hi]), NReps.same ts xs' bs' h2 fun i hi => hk i (by simp [hi]), rfl, rfl⟩
end
theorem NRep.lt {w : World} : ∀ (T : DT) (cs : List Value) (bs : List Nat), NRep w T cs bs → cs.length = 6 := by
  intro T cs bs h
  obtain ⟨kd, n, u, s, ks, l⟩ := T
  rw [NRep] at h
  obtain ⟨kv, lv, xs, bl, rfl, -⟩ := h
  rfl
theorem ownsRow_one {w : World} {B : Nat} {ty : TypeId} {sz m : Nat} {v : Value} {xs : List Value} (h : w.ownsRow B ty sz v m xs) : v.oneCell' = true := by
  rcases h.2 with ⟨rfl, -⟩ | ⟨g, c, cur, rfl, -⟩ <;> rfl
theorem NRep.one {w : World} : ∀ (T : DT) (cs : List Value) (bs : List Nat), NRep w T cs bs → ∀ v ∈ cs, v.oneCell' = true := by
  intro T cs bs h
  obtain ⟨kd, n, u, s, ks, l⟩ := T
  rw [NRep] at h
  obtain ⟨kv, lv, xs, bl, rfl, h2, h3, -⟩ := h
  intro v hv
  simp only [nodeC, List.mem_cons, List.not_mem_nil, or_false] at hv
  rcases hv with rfl | rfl | rfl | rfl | rfl | rfl
  · rfl
  · rfl
  · rfl
  · rfl
  · exact ownsRow_one h2
  · exact ownsRow_one h3
theorem NReps.snoc {w : World} : ∀ (l : List DT) (xs : List Value) (bs : List Nat) (T : DT) (c : List Value) (b : List Nat), NReps w l xs bs → NRep w T c b → NReps w (l ++ [T]) (xs ++ c) (bs ++ b)
  | [], xs, bs, T, c, b, h, h' => by
    rw [NReps] at h
    obtain ⟨rfl, rfl⟩ := h
    rw [List.nil_append, NReps]
    exact ⟨c, b, [], [], h', by rw [NReps]; exact ⟨rfl, rfl⟩, by simp, by simp⟩
  | t :: ts, xs, bs, T, c, b, h, h' => by
    rw [NReps] at h
    obtain ⟨c1, b1, xs', bs', h1, h2, rfl, rfl⟩ := h
    rw [List.cons_append, NReps]
    exact ⟨c1, b1, xs' ++ c, bs' ++ b, h1, NReps.snoc ts xs' bs' T c b h2 h', by simp, by simp⟩
theorem NReps.split {w : World} : ∀ (l l' : List DT) (xs : List Value) (bs : List Nat), NReps w (l ++ l') xs bs → ∃ xs1 xs2 b1 b2, NReps w l xs1 b1 ∧ NReps w l' xs2 b2 ∧ xs = xs1 ++ xs2 ∧ bs = b1 ++ b2
  | [], l', xs, bs, h => ⟨[], xs, [], bs, by rw [NReps]; exact ⟨rfl, rfl⟩, h, rfl, rfl⟩
  | t :: ts, l', xs, bs, h => by
    rw [List.cons_append, NReps] at h
    obtain ⟨c, b, xs', bs', h1, h2, rfl, rfl⟩ := h
    obtain ⟨x1, x2, b1, b2, g1, g2, rfl, rfl⟩ := NReps.split ts l' xs' bs' h2
    exact ⟨c ++ x1, x2, b ++ b1, b2, by rw [NReps]; exact ⟨c, b, x1, b1, h1, g1, rfl, rfl⟩, g2, by simp, by simp⟩
theorem NReps.len {w : World} : ∀ (l : List DT) (xs : List Value) (bs : List Nat), NReps w l xs bs → xs.length = 6 * l.length
  | [], xs, bs, h => by rw [NReps] at h; rw [h.1]; rfl
  | t :: ts, xs, bs, h => by
    rw [NReps] at h
    obtain ⟨c, b, xs', bs', h1, h2, rfl, rfl⟩ := h
    have := NReps.len ts xs' bs' h2
    have := NRep.lt t c b h1
    simp only [List.length_append, List.length_cons]; omega
mutual
/-- The blocks lie in memory. -/
theorem NRep.bd {w : World} : ∀ (T : DT) (cs : List Value) (bs : List Nat), NRep w T cs bs → ∀ i ∈ bs, i < w.heap.size
  | .mk kd n u s ks l, cs, bs, h => by
    rw [NRep] at h
    obtain ⟨kv, lv, xs, bl, h1, h2, h3, h4, rfl⟩ := h
    intro i hi
    simp only [List.mem_append, blkL, Option.mem_toList] at hi
    rcases hi with hi | hi | hi
    · exact (h2.lt i hi).2
    · exact (h3.lt i hi).2
    · exact NReps.bd l xs bl h4 i hi
theorem NReps.bd {w : World} : ∀ (l : List DT) (xs : List Value) (bs : List Nat), NReps w l xs bs → ∀ i ∈ bs, i < w.heap.size
  | [], xs, bs, h => by rw [NReps] at h; rw [h.2]; simp
  | t :: ts, xs, bs, h => by
    rw [NReps] at h
    obtain ⟨c, b, xs', bs', h1, h2, rfl, rfl⟩ := h
    intro i hi
    rcases List.mem_append.1 hi with hi | hi
    · exact NRep.bd t c b h1 i hi
    · exact NReps.bd ts xs' bs' h2 i hi
end
end
section
open Go.RowKit
/-- The walker's cells. -/
def dkCells (bv : Value) (deep fuel at_ e : Int) : Array Value := #[bv, .int .i64 deep, .int .i64 fuel, .int .i64 at_, .int .i64 e]
structure DSt (ty : TypeId) (w : World) (lk b o n cap : Nat) (D : List UInt8) (dp fu at_ e : Int) : Prop where
  row : w.heap[lk]? = some (.cells (dkCells (.slice (some ⟨b, o, none⟩) n cap) dp fu at_ e) ty (0, 0))
  doc : Doc w b o n cap D
  ne : b ≠ lk
structure DLow (B lk b : Nat) : Prop where
  l : lk < B
  b : b < B
theorem DLow.mono {B B' lk b : Nat} (h : DLow B lk b) (k : B ≤ B') : DLow B' lk b := ⟨Nat.lt_of_lt_of_le h.l k, Nat.lt_of_lt_of_le h.b k⟩
section
variable {ty : TypeId} {w w' : World} {lk b o n cap : Nat} {D : List UInt8} {dp fu at_ e : Int}
theorem DSt.lkt (h : DSt ty w lk b o n cap D dp fu at_ e) : lk < w.heap.size := (Array.getElem?_eq_some_iff.1 h.row).1
theorem DSt.low (h : DSt ty w lk b o n cap D dp fu at_ e) : DLow w.heap.size lk b := ⟨h.lkt, h.doc.lt⟩
theorem DSt.c0 (h : DSt ty w lk b o n cap D dp fu at_ e) : w.cell? ⟨lk, 0, none⟩ = some (.slice (some ⟨b, o, none⟩) n cap) := cell_of_row _ _ _ _ _ _ h.row
theorem DSt.c1 (h : DSt ty w lk b o n cap D dp fu at_ e) : w.cell? ⟨lk, 1, none⟩ = some (.int .i64 dp) := cell_of_row _ _ _ _ _ _ h.row
theorem DSt.c2 (h : DSt ty w lk b o n cap D dp fu at_ e) : w.cell? ⟨lk, 2, none⟩ = some (.int .i64 fu) := cell_of_row _ _ _ _ _ _ h.row
theorem DSt.c3 (h : DSt ty w lk b o n cap D dp fu at_ e) : w.cell? ⟨lk, 3, none⟩ = some (.int .i64 at_) := cell_of_row _ _ _ _ _ _ h.row
theorem DSt.c4 (h : DSt ty w lk b o n cap D dp fu at_ e) : w.cell? ⟨lk, 4, none⟩ = some (.int .i64 e) := cell_of_row _ _ _ _ _ _ h.row
theorem DSt.fz (h : DSt ty w lk b o n cap D dp fu at_ e) (j : Nat) : w.frozen? ⟨lk, j, none⟩ = false := frozen_of_row _ _ j _ _ h.row
theorem DSt.keep (h : DSt ty w lk b o n cap D dp fu at_ e) {B : Nat} (hl : DLow B lk b) (hb : Below B w w') (hB : B ≤ w.heap.size) : DSt ty w' lk b o n cap D dp fu at_ e :=
  ⟨(hb.block _ hl.l).trans h.row, ⟨h.doc.len, h.doc.le, h.doc.max, h.doc.sm, fun i hi => by
    rw [World.cell?_of_block (w := w) (w' := w') (a := ⟨b, o + i, none⟩) (hb.block b hl.b)]; exact h.doc.at_ i hi, Nat.lt_of_lt_of_le hl.b (Nat.le_trans hB hb.size)⟩, h.ne⟩
theorem DSt.told (h : DSt ty w lk b o n cap D dp fu at_ e) (ht : Touch [lk] w w') {dp' fu' at' e' : Int}
    (hr : w'.heap[lk]? = some (.cells (dkCells (.slice (some ⟨b, o, none⟩) n cap) dp' fu' at' e') ty (0, 0))) : DSt ty w' lk b o n cap D dp' fu' at' e' :=
  ⟨hr, h.doc.touch ht (by simpa using h.ne), h.ne⟩
theorem DSt.still (h : DSt ty w lk b o n cap D dp fu at_ e) {T : List Nat} (ht : Touch T w w') (h1 : lk ∉ T) (h2 : b ∉ T) : DSt ty w' lk b o n cap D dp fu at_ e :=
  ⟨(ht.block _ h.lkt h1).trans h.row, h.doc.touch ht h2, h.ne⟩
/-- What the walk needs behind a call that changes the walker's block: own blocks read as before. -/
theorem dcell {B : Nat} {W w1 : World} (h : Touch [lk] W w1) (hl : DLow B lk b) :
    (∀ b o, B ≤ b → b < W.heap.size → w1.cell? ⟨b, o, none⟩ = W.cell? ⟨b, o, none⟩) ∧ (∀ b o, B ≤ b → b < W.heap.size → w1.frozen? ⟨b, o, none⟩ = W.frozen? ⟨b, o, none⟩) ∧ (∀ b, b < W.heap.size → b < w1.heap.size) := by
  have hk : ∀ x, B ≤ x → x < W.heap.size → w1.heap[x]? = W.heap[x]? := fun x h1 h2 => h.block x h2 (by
    have := hl.l
    simp only [List.mem_cons, List.not_mem_nil, or_false]; omega)
  exact ⟨fun x o h1 h2 => World.cell?_of_block (a := ⟨x, o, none⟩) (hk x h1 h2), fun x o h1 h2 => World.frozen?_of_block (a := ⟨x, o, none⟩) (hk x h1 h2), fun x hx => Nat.lt_of_lt_of_le hx h.size⟩
end
def tgtE (D : List UInt8) (p q t k lim e : Int) : Int := if tgtB D p q t k lim then e else tellE e 211
def tgtA (D : List UInt8) (p q t k lim e at_ : Int) : Int := if tgtB D p q t k lim then at_ else tellA e at_ p
def tgtX (D : List UInt8) (p q t k lim : Int) : Int := if tgtB D p q t k lim then p - loadV D p q else 0
section
variable {w : World} {lk b o n cap : Nat} {D : List UInt8} {dp fu at_ e : Int}
theorem dtell (h : DSt 76 w lk b o n cap D dp fu at_ e) (a x : Int) :
    Calls Try.prog 64 #[.pointer (some ⟨lk, 0, none⟩), .int .i64 a, .int .i64 x] w fun en w' =>
      en = .returned (.bool (tellE e x == 0)) ∧ DSt 76 w' lk b o n cap D dp fu (tellA e at_ a) (tellE e x) ∧ Touch [lk] w w' := by
  have HS := Lib.hid h
  have Hr := Lib.hid h.row
  have c3 := h.c3
  have c4 := h.c4
  have f3 := h.fz 3
  have f4 := h.fz 4
  clear h
  by_cases he : e = 0
  · subst he
    have e1 : tellE 0 x = x := by simp [tellE]
    have e2 : tellA 0 at_ a = a := by simp [tellA]
    rw [e1, e2]; clear e1 e2
    go_enter Try.func64, Try.ntmps64
    go_wp2
    go_returns
    exact ⟨rfl, HS.out.told ((Touch.setCell _ _ _ _).trans (Touch.setCell _ _ _ _)) (heap_setCell_same _ _ _ _ _ _ (heap_setCell_same _ _ _ _ _ _ Hr.out)), (Touch.setCell _ _ _ _).trans (Touch.setCell _ _ _ _)⟩
  · have he' : (e == 0) = false := by simpa using he
    have e1 : tellE e x = e := by simp [tellE, he]
    have e2 : tellA e at_ a = at_ := by simp [tellA, he]
    rw [e1, e2, he']; clear e1 e2 he
    go_enter Try.func64, Try.ntmps64
    go_wp2
    go_returns
    exact ⟨rfl, HS.out, Touch.refl _ _⟩
set_option maxHeartbeats 4000000 in
theorem dtarget (h : DSt 76 w lk b o n cap D dp fu at_ e) (p q t k lim : Int) (h1 : wideB q = true) (h2 : 0 ≤ p) (h3 : p + q ≤ n) (h4 : 0 ≤ k) (h5 : k ≤ 9) :
    Calls Try.prog 65 #[.pointer (some ⟨lk, 0, none⟩), .agg #[.int .i64 p, .int .i64 q, .int .i64 t, .int .i64 k], .int .i64 lim] w fun en w' =>
      en = .returned (.int .i64 (tgtX D p q t k lim)) ∧ DSt 76 w' lk b o n cap D dp fu (tgtA D p q t k lim e at_) (tgtE D p q t k lim e) ∧ Touch [lk] w w' := by
  have hD := h.doc
  obtain ⟨hn1, hn2⟩ := hD.bd
  have hlow := h.low
  have hbw := hlow.b
  have hlw := hlow.l
  have hq := wideB_bd h1
  have c0 := h.c0
  have v0 := loadV_nonneg D p q
  have HS := Lib.hid h
  clear h
  by_cases ht : tgtB D p q t k lim = true
  · have e1 : tgtX D p q t k lim = p - loadV D p q := if_pos ht
    have e2 : tgtA D p q t k lim e at_ = at_ := if_pos ht
    have e3 : tgtE D p q t k lim e = e := if_pos ht
    rw [e1, e2, e3]; clear e1 e2 e3
    simp only [tgtB, Bool.and_eq_true, decide_eq_true_eq] at ht
    obtain ⟨g1, g2⟩ := ht
    have g1' : ¬ p < loadV D p q := by omega
    have g2' : ¬ lim ≤ beginsV t k (p - loadV D p q) := by omega
    clear h1 g2
    go_enter Try.func65, Try.ntmps65
    go_wp2
    go_region_with (go_at_call 79; refine (load_any _ _ _ _ D _ _ _ (hD.below zw)).mono ?_; rintro e w1 ⟨rfl, hb1⟩; obtain ⟨hc1, hf1, hl1⟩ := bcell hb1; (try simp only [zdz] at hc1 hf1 hl1); have hz1 := hb1.size; (try simp only [zsz] at hz1); (try have g0 : w.heap.size < w1.heap.size := by omega); (try have g1 : w.heap.size + 1 < w1.heap.size := by omega); (try have g2 : w.heap.size + 2 < w1.heap.size := by omega); (try have gb : b < w1.heap.size := by omega); (try have g3 : w.heap.size + 3 < w1.heap.size := by omega); (try have hbb : Below w.heap.size w w1 := zw); (try obtain ⟨hco, hfo, _⟩ := bcell hbb); (try have hb1 := hb1))
    all_goals go_wp2_with (go_at_call 97; refine (dbegins_any p q t k _ _ (by omega) (by omega) h4 h5).mono ?_; rintro e w1 ⟨rfl, hb1⟩; obtain ⟨hc1, hf1, hl1⟩ := bcell hb1; (try simp only [zdz] at hc1 hf1 hl1); have hz1 := hb1.size; (try simp only [zsz] at hz1); (try have g0 : w.heap.size < w1.heap.size := by omega); (try have g1 : w.heap.size + 1 < w1.heap.size := by omega); (try have g2 : w.heap.size + 2 < w1.heap.size := by omega); (try have gb : b < w1.heap.size := by omega); (try have g3 : w.heap.size + 3 < w1.heap.size := by omega); (try have hbb : Below w.heap.size w w1 := zw); (try obtain ⟨hco, hfo, _⟩ := bcell hbb); (try have hb1 := hb1))
    all_goals go_returns
    all_goals exact ⟨rfl, HS.out.keep hlow zw (Nat.le_refl _), Touch.quiet zw⟩
  · have e1 : tgtX D p q t k lim = 0 := if_neg ht
    have e2 : tgtA D p q t k lim e at_ = tellA e at_ p := if_neg ht
    have e3 : tgtE D p q t k lim e = tellE e 211 := if_neg ht
    rw [e1, e2, e3]; clear e1 e2 e3
    by_cases g1 : p < loadV D p q
    · clear h1 ht
      go_enter Try.func65, Try.ntmps65
      go_wp2
      go_region_with (go_at_call 79; refine (load_any _ _ _ _ D _ _ _ (hD.below zw)).mono ?_; rintro e w1 ⟨rfl, hb1⟩; obtain ⟨hc1, hf1, hl1⟩ := bcell hb1; (try simp only [zdz] at hc1 hf1 hl1); have hz1 := hb1.size; (try simp only [zsz] at hz1); (try have g0 : w.heap.size < w1.heap.size := by omega); (try have g1 : w.heap.size + 1 < w1.heap.size := by omega); (try have g2 : w.heap.size + 2 < w1.heap.size := by omega); (try have gb : b < w1.heap.size := by omega); (try have g3 : w.heap.size + 3 < w1.heap.size := by omega); (try have hbb : Below w.heap.size w w1 := zw); (try obtain ⟨hco, hfo, _⟩ := bcell hbb); (try have hb1 := hb1))
      all_goals go_wp2_with (go_at_call 64; refine (dtell (HS.out.keep hlow zw (Nat.le_refl _)) p 211).mono ?_; rintro en w2 ⟨rfl, hr1, ht1⟩)
      all_goals go_returns
      all_goals exact ⟨rfl, hr1, (Touch.quiet zw).trans ht1⟩
    · have g2 : lim ≤ beginsV t k (p - loadV D p q) := by
        simp only [tgtB, Bool.and_eq_true, decide_eq_true_eq] at ht
        omega
      have g1' : loadV D p q ≤ p := by omega
      clear h1 ht g1
      go_enter Try.func65, Try.ntmps65
      go_wp2
      go_region_with (go_at_call 79; refine (load_any _ _ _ _ D _ _ _ (hD.below zw)).mono ?_; rintro e w1 ⟨rfl, hb1⟩; obtain ⟨hc1, hf1, hl1⟩ := bcell hb1; (try simp only [zdz] at hc1 hf1 hl1); have hz1 := hb1.size; (try simp only [zsz] at hz1); (try have g0 : w.heap.size < w1.heap.size := by omega); (try have g1 : w.heap.size + 1 < w1.heap.size := by omega); (try have g2 : w.heap.size + 2 < w1.heap.size := by omega); (try have gb : b < w1.heap.size := by omega); (try have g3 : w.heap.size + 3 < w1.heap.size := by omega); (try have hbb : Below w.heap.size w w1 := zw); (try obtain ⟨hco, hfo, _⟩ := bcell hbb); (try have hb1 := hb1))
      all_goals go_wp2_with (first | (go_at_call 97; refine (dbegins_any p q t k _ _ (by omega) (by omega) h4 h5).mono ?_; rintro e w1 ⟨rfl, hb1⟩; obtain ⟨hc1, hf1, hl1⟩ := bcell hb1; (try simp only [zdz] at hc1 hf1 hl1); have hz1 := hb1.size; (try simp only [zsz] at hz1); (try have g0 : w.heap.size < w1.heap.size := by omega); (try have g1 : w.heap.size + 1 < w1.heap.size := by omega); (try have g2 : w.heap.size + 2 < w1.heap.size := by omega); (try have gb : b < w1.heap.size := by omega); (try have g3 : w.heap.size + 3 < w1.heap.size := by omega); (try have hbb : Below w.heap.size w w1 := zw); (try obtain ⟨hco, hfo, _⟩ := bcell hbb); (try have hb1 := hb1)) | (go_at_call 64; refine (dtell (HS.out.keep hlow zw (Nat.le_refl _)) p 211).mono ?_; rintro en w2 ⟨rfl, hr1, ht1⟩))
      all_goals go_returns
      all_goals exact ⟨rfl, hr1, (Touch.quiet zw).trans ht1⟩
end
end
end Go.Proofs.Ytmpflnlajakibaa
