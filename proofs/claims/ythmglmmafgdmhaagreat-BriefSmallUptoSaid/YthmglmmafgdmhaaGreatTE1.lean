/- Walks: BriefSmall. -/
import Derived.Test.YthmglmmafgdmhaaGreatT3
import Derived.Deep.DeepCutAuto
import Derived.Deep.CutBlock
set_option linter.unusedSimpArgs false
set_option linter.unusedVariables false
namespace Go.Proofs.YthmglmmafgdmhaaGreat
open Go.RowKit

theorem tmodN (n k : Nat) : (n : Int).tmod (k : Int) = ((n % k : Nat) : Int) := by rw [Int.tmod_eq_emod_of_nonneg (by omega)]; rfl
theorem tdivN (n k : Nat) : (n : Int).tdiv (k : Int) = ((n / k : Nat) : Int) := by rw [Int.tdiv_eq_ediv_of_nonneg (by omega)]; rfl
/-- A row of n numbers in a block of its own. -/
def RowC (w : World) (g n : Nat) : Prop := ∃ cur : Array Value, w.heap[g]? = some (.cells cur 3 (0, 0)) ∧ cur.size = n ∧ ∀ i, i < n → ∃ x, cur[i]? = some (.int .i64 x) ∧ InI x
theorem RowC.lt {w : World} {g n : Nat} (h : RowC w g n) : g < w.heap.size := by obtain ⟨cur, h, _⟩ := h; exact (Array.getElem?_eq_some_iff.1 h).1
theorem RowC.below {w w' : World} {g n : Nat} {B : Nat} (h : RowC w g n) (hb : Below B w w') (hg : g < B) : RowC w' g n := by
  obtain ⟨cur, h1, h2⟩ := h
  exact ⟨cur, (hb.block g hg).trans h1, h2⟩
theorem RowC.belowAll {w w' : World} {g n : Nat} (h : RowC w g n) (hb : Below w.heap.size w w') : RowC w' g n := h.below hb h.lt
theorem RowC.ext {w : World} {g n : Nat} (h : RowC w g n) (u : Ext) : RowC (w.ext u) g n := h.belowAll (Below.of_ext w u (Nat.le_refl _))
theorem RowC.alloc {w : World} {g n : Nat} (h : RowC w g n) (o : Obj) : RowC (w.alloc o) g n := h.belowAll ((Below.refl _ _).alloc (Nat.le_refl _) o)
theorem RowC.cell {w : World} {g n i : Nat} (h : RowC w g n) (hi : i < n) : ∃ x, w.cell? ⟨g, i, none⟩ = some (.int .i64 x) ∧ InI x := by
  obtain ⟨cur, h1, h2, h3⟩ := h
  obtain ⟨x, hx, hi⟩ := h3 i hi
  exact ⟨x, by rw [World.cell?, h1]; exact hx, hi⟩
theorem RowC.frozen {w : World} {g n : Nat} (h : RowC w g n) (i : Nat) : w.frozen? ⟨g, i, none⟩ = false := by
  obtain ⟨cur, h1, _⟩ := h
  simp [World.frozen?, h1]
theorem RowC.mk_ {w : World} {g : Nat} {us : Array Value} (hg : g = w.heap.size) (hu : ∀ i, i < us.size → ∃ x, us[i]? = some (.int .i64 x) ∧ InI x) : RowC (w.alloc (.cells us 3)) g us.size := by
  subst hg
  exact ⟨us, heap_alloc_new w _, rfl, hu⟩
theorem RowC.set {w : World} {g n : Nat} (h : RowC w g n) (a i : Nat) {x : Int} (hx : InI x) : RowC (w.setCell ⟨a, i, none⟩ (.int .i64 x)) g n := by
  obtain ⟨cur, h1, h2, h3⟩ := h
  by_cases hag : a = g
  · subst hag
    refine ⟨cur.setIfInBounds i (.int .i64 x), row_setA h1 i _, by simpa using h2, fun j hj => ?_⟩
    by_cases hij : i = j
    · subst hij; exact ⟨x, by rw [Array.getElem?_setIfInBounds_self]; simp [h2, hj], hx⟩
    · obtain ⟨y, hy, hi⟩ := h3 j hj
      exact ⟨y, by rw [Array.getElem?_setIfInBounds_ne hij]; exact hy, hi⟩
  · exact ⟨cur, (Below.heap_setCell w _ _ g (fun e => hag (by have e : g = a := e; exact e.symm))).trans h1, h2, h3⟩
theorem RowC.sl {w : World} {g n k : Nat} (h : RowC w g n) (hk : k ≤ n) (hn : n ≤ 1000) : ∃ xs : List Int, Sl w (fun _ => True) (some ⟨g, 0, none⟩) k n xs := by
  have hc : ∀ i, ∃ x : Int, i < n → w.cell? ⟨g, i, none⟩ = some (.int .i64 x) ∧ InI x := fun i => by
    by_cases hi : i < n
    · obtain ⟨x, h1, h2⟩ := h.cell hi
      exact ⟨x, fun _ => ⟨h1, h2⟩⟩
    · exact ⟨0, fun h => absurd h hi⟩
  obtain ⟨f, hf⟩ := Classical.axiomOfChoice hc
  refine ⟨(List.range k).map f, by simp, hk, by unfold maxLen; omega, fun h => (by cases h), fun _ => ⟨g, 0, rfl, h.lt, trivial, fun i x hx => ?_⟩⟩
  rw [List.getElem?_map] at hx
  have hik : i < k := by
    by_cases hik : i < k
    · exact hik
    · rw [List.getElem?_eq_none (by simp; omega)] at hx; cases hx
  rw [List.getElem?_range hik] at hx
  injection hx with hx
  subst hx
  obtain ⟨h1, h2⟩ := hf i (by omega)
  refine ⟨[.int .i64 (f i)], ⟨rfl, h2⟩, fun j u hj => ?_⟩
  match j, hj with
  | 0, hj =>
    injection hj with hj
    subst hj
    simpa [Rep.size] using h1
  | j + 1, hj => simp at hj
/-- A brief in a variable of its own: three rows of numbers. -/
structure BoxC (w : World) (gp g1 n1 k1 g2 n2 k2 g3 n3 k3 : Nat) : Prop where
  row : w.heap[gp]? = some (.cells #[.slice (some ⟨g1, 0, none⟩) n1 k1, .slice (some ⟨g2, 0, none⟩) n2 k2, .slice (some ⟨g3, 0, none⟩) n3 k3] 43 (0, 0))
  r1 : RowC w g1 k1
  r2 : RowC w g2 k2
  r3 : RowC w g3 k3
  l1 : n1 ≤ k1 ∧ k1 ≤ 3
  l2 : n2 ≤ k2 ∧ k2 ≤ 3
  l3 : n3 ≤ k3 ∧ k3 ≤ 3
section
variable {w w' : World} {gp g1 n1 k1 g2 n2 k2 g3 n3 k3 : Nat}
theorem BoxC.lt (h : BoxC w gp g1 n1 k1 g2 n2 k2 g3 n3 k3) : gp < w.heap.size := (Array.getElem?_eq_some_iff.1 h.row).1
theorem BoxC.belowAll (h : BoxC w gp g1 n1 k1 g2 n2 k2 g3 n3 k3) (hb : Below w.heap.size w w') : BoxC w' gp g1 n1 k1 g2 n2 k2 g3 n3 k3 :=
  ⟨(hb.block gp h.lt).trans h.row, h.r1.belowAll hb, h.r2.belowAll hb, h.r3.belowAll hb, h.l1, h.l2, h.l3⟩
theorem BoxC.ext (h : BoxC w gp g1 n1 k1 g2 n2 k2 g3 n3 k3) (u : Ext) : BoxC (w.ext u) gp g1 n1 k1 g2 n2 k2 g3 n3 k3 := h.belowAll (Below.of_ext w u (Nat.le_refl _))
theorem BoxC.cells (h : BoxC w gp g1 n1 k1 g2 n2 k2 g3 n3 k3) : w.cell? ⟨gp, 0, none⟩ = some (.slice (some ⟨g1, 0, none⟩) n1 k1) ∧ w.cell? ⟨gp, 1, none⟩ = some (.slice (some ⟨g2, 0, none⟩) n2 k2) ∧ w.cell? ⟨gp, 2, none⟩ = some (.slice (some ⟨g3, 0, none⟩) n3 k3) :=
  ⟨cell_of_row w gp _ _ _ (0, 0) h.row, cell_of_row w gp _ _ _ (0, 0) h.row, cell_of_row w gp _ _ _ (0, 0) h.row⟩
theorem BoxC.frozen (h : BoxC w gp g1 n1 k1 g2 n2 k2 g3 n3 k3) (i : Nat) : w.frozen? ⟨gp, i, none⟩ = false := by simp [World.frozen?, h.row]
/-- A number is written into a row. -/
theorem BoxC.set (h : BoxC w gp g1 n1 k1 g2 n2 k2 g3 n3 k3) {a m i : Nat} (ha : RowC w a m) {x : Int} (hx : InI x) : BoxC (w.setCell ⟨a, i, none⟩ (.int .i64 x)) gp g1 n1 k1 g2 n2 k2 g3 n3 k3 := by
  refine ⟨(Below.heap_setCell w _ _ gp fun e => ?_).trans h.row, h.r1.set a i hx, h.r2.set a i hx, h.r3.set a i hx, h.l1, h.l2, h.l3⟩
  have e : gp = a := e
  obtain ⟨cur, h1, _⟩ := ha
  have h2 := h.row
  rw [e, h1] at h2
  injection h2 with h2
  injection h2 with _ h2
  exact absurd h2 (by decide)
theorem BoxC.lit (W : World) {us1 us2 us3 : Array Value} (h1 : ∀ i, i < us1.size → ∃ x, us1[i]? = some (.int .i64 x) ∧ InI x) (h2 : ∀ i, i < us2.size → ∃ x, us2[i]? = some (.int .i64 x) ∧ InI x) (h3 : ∀ i, i < us3.size → ∃ x, us3[i]? = some (.int .i64 x) ∧ InI x)
    (l1 : us1.size ≤ 3) (l2 : us2.size ≤ 3) (l3 : us3.size ≤ 3) :
    BoxC ((((W.alloc (.cells us1 3)).alloc (.cells us2 3)).alloc (.cells us3 3)).alloc (.cells #[.slice (some ⟨W.heap.size, 0, none⟩) us1.size us1.size, .slice (some ⟨W.heap.size + 1, 0, none⟩) us2.size us2.size, .slice (some ⟨W.heap.size + 1 + 1, 0, none⟩) us3.size us3.size] 43))
      (W.heap.size + 1 + 1 + 1) W.heap.size us1.size us1.size (W.heap.size + 1) us2.size us2.size (W.heap.size + 1 + 1) us3.size us3.size := by
  refine ⟨?_, (((RowC.mk_ rfl h1).alloc _).alloc _).alloc _, ((RowC.mk_ (by simp) h2).alloc _).alloc _, (RowC.mk_ (by simp) h3).alloc _, ⟨Nat.le_refl _, l1⟩, ⟨Nat.le_refl _, l2⟩, ⟨Nat.le_refl _, l3⟩⟩
  have h := heap_alloc_new (((W.alloc (.cells us1 3)).alloc (.cells us2 3)).alloc (.cells us3 3)) (.cells #[.slice (some ⟨W.heap.size, 0, none⟩) us1.size us1.size, .slice (some ⟨W.heap.size + 1, 0, none⟩) us2.size us2.size, .slice (some ⟨W.heap.size + 1 + 1, 0, none⟩) us3.size us3.size] 43)
  simpa using h
end
def BoxE (w : World) (gp : Nat) : Prop := ∃ g1 n1 k1 g2 n2 k2 g3 n3 k3, BoxC w gp g1 n1 k1 g2 n2 k2 g3 n3 k3
def VarE (w : World) (v : Value) : Prop := ∃ g k c, v = .slice (some ⟨g, 0, none⟩) k c ∧ RowC w g c ∧ k ≤ c ∧ c ≤ 3
def PtrC (i n : Nat) : Post := fun v w => ∃ g, v = .pointer (some ⟨g, i, none⟩) ∧ RowC w g n
theorem PtrC.stable_ {F : World → Prop} {k n : Nat} {mem : Bool} (hm : mem = true) : stable F mem (PtrC k n) :=
  stable_mem hm fun _ w u ⟨g, hv, h⟩ => ⟨g, hv, h.ext u⟩
def IntQ : Post := fun v _ => ∃ x : Int, v = .int .i64 x ∧ InI x
theorem IntQ.stable_ {F : World → Prop} : stable F true IntQ := stable_mem rfl fun _ _ _ h => h
/-- A row of numbers, cut. -/
def CutC (k n : Nat) : Post := fun v w => ∃ g, v = .slice (some ⟨g, 0, none⟩) k n ∧ RowC w g n
theorem CutC.stable_ {F : World → Prop} {k n : Nat} {mem : Bool} (hm : mem = true) : stable F mem (CutC k n) :=
  stable_mem hm fun _ w u ⟨g, hv, h⟩ => ⟨g, hv, h.ext u⟩
theorem wpList_make_rows {P : Program} (w : World) {ops : Array Oper} {rest : List Oper} {o : Oper} {a : Act} {Q : Exit → Act → World → Prop}
    (hg : o.guard = none) (l c : Operand) (t : TypeId) (hop : o.op = Op.makeSlice t l c)
    (e : TypeId) (i : TypeInfo) (z : Value) (ht : P.underlying t = some (.slice e)) (hi : P.info? e = some i) (hz : i.zero = some z) (s : Nat) (hsize : i.size = s) (cs : Array Value) (hz1 : z.cells = cs)
    (kl kc : IntKind) (n : Nat) (hl : a.eval l = .int kl (n : Int)) (hc : a.eval c = .int kc (n : Int)) (hbytes : i.bytes * n ≤ 281474976710656) (h63 : n ≤ 9223372036854775807)
    (hK : wpList P ops Q rest (a.put o.dst (.slice (some ⟨w.heap.size, 0, none⟩) n n)) (w.alloc (.cells (madeCells cs (n * s)) e))) :
    wpList P ops Q (o :: rest) a w := by
  refine wpList_plain hg fun K hK' => ?_
  have hrun := run_make (P := P) w t e i z ht hi hz kl kc n n (by omega) (Int.le_refl _) (by
    have h : ((i.bytes * n : Nat) : Int) ≤ 281474976710656 := by omega
    rwa [Int.natCast_mul] at h) (by omega)
  simp only [Int.toNat_natCast, hsize, hz1] at hrun
  unfold Oper.wp
  simp [execOp, hop, hl, hc, hrun, Result.andThen]
  exact hK' _ _ hK
section
variable {w w' : World} {gp g1 n1 k1 g2 n2 k2 g3 n3 k3 : Nat}
theorem BoxC.brief (h : BoxC w gp g1 n1 k1 g2 n2 k2 g3 n3 k3) : ∃ b : Brief, Rep.is w (fun _ => True) b [.slice (some ⟨g1, 0, none⟩) n1 k1, .slice (some ⟨g2, 0, none⟩) n2 k2, .slice (some ⟨g3, 0, none⟩) n3 k3] ∧ b.vars.length ≤ 1048576 ∧ b.colors.length ≤ 1048576 ∧ b.edge.length ≤ 1048576 := by
  have l1 := h.l1; have l2 := h.l2; have l3 := h.l3
  obtain ⟨x1, s1⟩ := h.r1.sl l1.1 (by omega)
  obtain ⟨x2, s2⟩ := h.r2.sl l2.1 (by omega)
  obtain ⟨x3, s3⟩ := h.r3.sl l3.1 (by omega)
  exact ⟨⟨x1, x2, x3⟩, Brief.mk_ s1 s2 s3, by have := s1.len; show x1.length ≤ _; omega, by have := s2.len; show x2.length ≤ _; omega, by have := s3.len; show x3.length ≤ _; omega⟩
theorem BoxC.ne_row (h : BoxC w gp g1 n1 k1 g2 n2 k2 g3 n3 k3) {g n : Nat} (hr : RowC w g n) : g ≠ gp := fun e => by
  obtain ⟨cur, h1, _⟩ := hr
  have h2 := h.row
  rw [← e, h1] at h2
  injection h2 with h2
  injection h2 with _ h2
  exact absurd h2 (by decide)
theorem RowC.other {g n : Nat} (hr : RowC w g n) (h : BoxC w gp g1 n1 k1 g2 n2 k2 g3 n3 k3) (i : Nat) (v : Value) : RowC (w.setCell ⟨gp, i, none⟩ v) g n := by
  obtain ⟨cur, h1, h2⟩ := id hr
  exact ⟨cur, (Below.heap_setCell w _ _ g fun e => h.ne_row hr e).trans h1, h2⟩
theorem BoxC.other {gq p1 m1 q1 p2 m2 q2 p3 m3 q3 : Nat} (h : BoxC w gp g1 n1 k1 g2 n2 k2 g3 n3 k3) (h' : BoxC w gq p1 m1 q1 p2 m2 q2 p3 m3 q3) (hne : gq ≠ gp) (i : Nat) (v : Value) : BoxC (w.setCell ⟨gp, i, none⟩ v) gq p1 m1 q1 p2 m2 q2 p3 m3 q3 :=
  ⟨(Below.heap_setCell w _ _ gq hne).trans h'.row, h'.r1.other h i v, h'.r2.other h i v, h'.r3.other h i v, h'.l1, h'.l2, h'.l3⟩
/-- Another row is put into a box. -/
theorem BoxC.field0 (h : BoxC w gp g1 n1 k1 g2 n2 k2 g3 n3 k3) {g n k : Nat} (hl : n ≤ k ∧ k ≤ 3) (hb : Below w.heap.size (w.setCell ⟨gp, 0, none⟩ (.slice (some ⟨g, 0, none⟩) n k)) w') (hr : RowC w' g k) : BoxE w' gp := by
  have hs : (w.setCell ⟨gp, 0, none⟩ (.slice (some ⟨g, 0, none⟩) n k)).heap.size = w.heap.size := by simp
  refine ⟨g, n, k, g2, n2, k2, g3, n3, k3, (hb.block gp h.lt).trans (row_setA h.row 0 _), hr, ?_, ?_, hl, h.l2, h.l3⟩
  · exact (h.r2.other h 0 _).below hb h.r2.lt
  · exact (h.r3.other h 0 _).below hb h.r3.lt
theorem BoxC.field2 (h : BoxC w gp g1 n1 k1 g2 n2 k2 g3 n3 k3) {g n k : Nat} (hl : n ≤ k ∧ k ≤ 3) (hb : Below w.heap.size (w.setCell ⟨gp, 2, none⟩ (.slice (some ⟨g, 0, none⟩) n k)) w') (hr : RowC w' g k) : BoxE w' gp := by
  refine ⟨g1, n1, k1, g2, n2, k2, g, n, k, (hb.block gp h.lt).trans (row_setA h.row 2 _), ?_, ?_, hr, h.l1, h.l2, hl⟩
  · exact (h.r1.other h 2 _).below hb h.r1.lt
  · exact (h.r2.other h 2 _).below hb h.r2.lt
theorem briefs3 {W : World} {x y : Brief} {us vs : List Value} (hx : Rep.is W (fun _ => True) x us) (hy : Rep.is W (fun _ => True) y vs) : RepL W (fun _ => True) [x, y, x] (us ++ (vs ++ (us ++ []))) :=
  ⟨_, _, rfl, hx, _, _, rfl, hy, _, _, rfl, hx, rfl⟩
end
theorem inJ {x : Int} (h : -9223372036854775808 ≤ x ∧ x ≤ 9223372036854775807) : InI x := h
theorem ints2 {a b : Int} (ha : InI a) (hb : InI b) : ∀ i, i < (#[.int .i64 a, .int .i64 b] : Array Value).size → ∃ x, (#[.int .i64 a, .int .i64 b] : Array Value)[i]? = some (.int .i64 x) ∧ InI x := by
  intro i hi
  match i, hi with
  | 0, _ => exact ⟨_, rfl, ha⟩
  | 1, _ => exact ⟨_, rfl, hb⟩
theorem ints4 {a b c d : Int} (ha : InI a) (hb : InI b) (hc : InI c) (hd : InI d) : ∀ i, i < (#[.int .i64 a, .int .i64 b, .int .i64 c, .int .i64 d] : Array Value).size → ∃ x, (#[.int .i64 a, .int .i64 b, .int .i64 c, .int .i64 d] : Array Value)[i]? = some (.int .i64 x) ∧ InI x := by
  intro i hi
  match i, hi with
  | 0, _ => exact ⟨_, rfl, ha⟩
  | 1, _ => exact ⟨_, rfl, hb⟩
  | 2, _ => exact ⟨_, rfl, hc⟩
  | 3, _ => exact ⟨_, rfl, hd⟩
theorem ints3 {a b c : Int} (ha : InI a) (hb : InI b) (hc : InI c) : ∀ i, i < (#[.int .i64 a, .int .i64 b, .int .i64 c] : Array Value).size → ∃ x, (#[.int .i64 a, .int .i64 b, .int .i64 c] : Array Value)[i]? = some (.int .i64 x) ∧ InI x := by
  intro i hi
  match i, hi with
  | 0, _ => exact ⟨_, rfl, ha⟩
  | 1, _ => exact ⟨_, rfl, hb⟩
  | 2, _ => exact ⟨_, rfl, hc⟩
set_option maxRecDepth 100000 in
set_option maxHeartbeats 16000000 in
theorem briefSmall_any (w : World) : Calls Tryz.prog 5 #[] w (fun e w' => e = .returned (.bool true) ∧ Below w.heap.size w w') := by
  obtain ⟨e0, he0⟩ : ∃ e0, w.heap.size = e0 := ⟨_, rfl⟩
  obtain ⟨W0, hW0⟩ : ∃ W0, w.alloc (.cells #[.int .i64 (-1), .int .i64 0, .int .i64 1, .int .i64 1099511627776, .int .i64 1099511627777] 3) = W0 := ⟨_, rfl⟩
  have HR0 := hide (show RowC W0 e0 5 by
    rw [← hW0]
    refine RowC.mk_ (us := #[.int .i64 (-1), .int .i64 0, .int .i64 1, .int .i64 1099511627776, .int .i64 1099511627777]) he0.symm fun i hi => ?_
    match i, hi with
    | 0, _ => exact ⟨_, rfl, by decide, by decide⟩
    | 1, _ => exact ⟨_, rfl, by decide, by decide⟩
    | 2, _ => exact ⟨_, rfl, by decide, by decide⟩
    | 3, _ => exact ⟨_, rfl, by decide, by decide⟩
    | 4, _ => exact ⟨_, rfl, by decide, by decide⟩)
  have HB0 := hide (show Below w.heap.size w W0 by rw [← hW0]; exact (Below.refl _ _).alloc (Nat.le_refl _) _)
  have hez : e0 < W0.heap.size := HR0.out.lt
  go_enter Tryz.func5, Tryz.ntmps5
  go_wp2_with fail
  have HE0 := hide he0; have HW0 := hide hW0
  clear he0 hW0
  go_loopw [2] (fun a wr => ∃ n : Nat, n ≤ 1500 ∧ a = .int .i64 n ∧ Below W0.heap.size W0 wr) (fun a _ => 1500 - (intOf a).toNat)
  case atStart => exact ⟨0, by omega, rfl, Below.refl _ _⟩
  case round =>
    obtain ⟨n, hn, rfl, hbq⟩ := hrel
    have HBQ := hide hbq
    have hwq := hbq.size
    clear hbq
    by_cases hlt : n < 1500
    · have hni : (n : Int) < 1500 := by omega
      obtain ⟨p3, hp3⟩ : ∃ p3, n % 3 = p3 := ⟨_, rfl⟩
      have lp3 : p3 < 3 := by omega
      have HRQ := hide (HR0.out.below HBQ.out hez)
      obtain ⟨q3, hq3⟩ : ∃ q3, 1 + p3 = q3 := ⟨_, rfl⟩
      obtain ⟨x3, c3, i3⟩ := HRQ.out.cell (i := q3) (by omega)
      have HI3 := hide i3
      have ez : e0 < wr.heap.size := by have := HBQ.out.size; omega
      clear i3
      go_upto_region 5 with (fail)
      go_cut [3] from 14 to 38 (fun s3 wc => ∃ gp g1 g2 g3 : Nat, s3 = .pointer (some ⟨gp, 0, none⟩) ∧ BoxC wc gp g1 3 3 g2 3 3 g3 3 3 ∧ (W0.heap.size ≤ gp ∧ W0.heap.size ≤ g2 ∧ W0.heap.size ≤ g3) ∧ Below W0.heap.size W0 wc)
      case first =>
        have e3 : (n : Int).tmod 3 = (p3 : Int) := by rw [← hp3]; exact tmodN n 3
        have f3 : (1 : Int) + (p3 : Int) = (q3 : Int) := by omega
        have w3 : IntKind.i64.wrap (q3 : Int) = (q3 : Int) := IntWalk.i64_in _ (by omega)
        have l3 : (q3 : Int) < 5 := by omega
        clear hp3 hq3
        go_wp2_with fail
        go_meet
        exact ⟨_, _, _, _, rfl, BoxC.lit wr (us1 := #[.int .i64 1, .int .i64 2, .int .i64 200]) (ints3 (inJ (by decide)) (inJ (by decide)) (inJ (by decide))) (ints3 (inJ (by omega)) (inJ (by omega)) (inJ (by omega))) (ints3 (inJ (by omega)) (inJ (by omega)) HI3.out) (by decide) (by simp) (by simp), ⟨by omega, by omega, by omega⟩, (((HBQ.out.alloc hwq _).alloc (by simp; omega) _).alloc (by simp; omega) _).alloc (by simp; omega) _⟩
      case rest =>
        obtain ⟨gp, ga1, ga2, ga3, rfl, ha, hga, hb⟩ := hcut
        have HA := hide ha; have HBA := hide hb
        have hwc := hb.size
        obtain ⟨W1, hW1⟩ : ∃ W1, W1 = wc := ⟨_, rfl⟩
        subst hW1
        clear ha hb c3 lp3 hp3 hq3
        go_upto_region 6 with (fail)
        go_cut [4] from 39 to 48 (fun s4 wd => ∃ gq gb1 gb2 gb3 : Nat, s4 = .pointer (some ⟨gq, 0, none⟩) ∧ BoxC wd gq gb1 2 2 gb2 2 2 gb3 2 2 ∧ (W0.heap.size ≤ gq ∧ W0.heap.size ≤ gb1 ∧ W1.heap.size ≤ gq) ∧ Below W1.heap.size W1 wd)
        case first =>
          go_wp2_with fail
          go_meet
          exact ⟨_, _, _, _, rfl, BoxC.lit W1 (us1 := #[.int .i64 2, .int .i64 5]) (ints2 (inJ (by decide)) (inJ (by decide))) (ints2 (inJ (by omega)) (inJ (by decide))) (ints2 (inJ (by omega)) (inJ (by decide))) (by decide) (by simp) (by simp), ⟨by omega, by omega, by omega⟩, ((((Below.refl _ _).alloc (Nat.le_refl _) _).alloc (by simp) _).alloc (by simp; omega) _).alloc (by simp; omega) _⟩
        case rest =>
          obtain ⟨gq, gb1, gb2, gb3, rfl, hB, hgb, hb⟩ := hcut
          have HC := hide hB; have HBB := hide hb
          have HBW := hide (HBA.out.trans (hb.mono hwc))
          have hwd := hb.size
          have HA2 := hide (HA.out.belowAll hb)
          clear hB hb
          obtain ⟨W2, hW2⟩ : ∃ W2, W2 = wc := ⟨_, rfl⟩
          subst hW2
          have hpq : gq ≠ gp := by have := HA.out.lt; omega
          clear HA HBA HBB
          obtain ⟨p4, hp4⟩ : ∃ p4, n % 4 = p4 := ⟨_, rfl⟩
          have lp4 : p4 < 4 := by omega
          have hw2 := HBW.out.size
          have ez2 : e0 < W2.heap.size := by omega
          have HR2 := hide (HR0.out.below HBW.out hez)
          go_upto_region 7 with (fail)
          go_cut [5, 6] from 49 to 65 (fun s5 s6 we => ∃ g5 g6 : Nat, s5 = .slice (some ⟨g5, 0, none⟩) p4 3 ∧ s6 = .slice (some ⟨g6, 0, none⟩) p4 3 ∧ RowC we g5 3 ∧ RowC we g6 3 ∧ Below W2.heap.size W2 we)
          case first =>
            obtain ⟨m3, hm3⟩ : ∃ m3, n / 3 % 3 = m3 := ⟨_, rfl⟩
            obtain ⟨d3, hd3⟩ : ∃ d3, n / 3 = d3 := ⟨_, rfl⟩
            rw [hd3] at hm3
            have lm3 : m3 < 3 := by omega
            obtain ⟨q3, hq3⟩ : ∃ q3, 1 + m3 = q3 := ⟨_, rfl⟩
            obtain ⟨x3, c3, i3⟩ := HR2.out.cell (i := q3) (by omega)
            have HI := hide i3
            have e4 : (n : Int).tmod 4 = (p4 : Int) := by rw [← hp4]; exact tmodN n 4
            have e3 : (n : Int).tdiv 3 = (d3 : Int) := by rw [← hd3]; exact tdivN n 3
            have e5 : (d3 : Int).tmod 3 = (m3 : Int) := by rw [← hm3]; exact tmodN d3 3
            have ld3 : d3 ≤ 500 := by omega
            obtain ⟨r3, hr3⟩ : ∃ r3, n % 3 = r3 := ⟨_, rfl⟩
            have e6 : (n : Int).tmod 3 = (r3 : Int) := by rw [← hr3]; exact tmodN n 3
            have lr3 : r3 < 3 := by omega
            have wd3 : IntKind.i64.wrap (d3 : Int) = (d3 : Int) := IntWalk.i64_in _ (by omega)
            have f3 : (1 : Int) + (m3 : Int) = (q3 : Int) := by omega
            have w3 : IntKind.i64.wrap (q3 : Int) = (q3 : Int) := IntWalk.i64_in _ (by omega)
            have l3 : (q3 : Int) < 5 := by omega
            have l4 : (p4 : Int) ≤ 3 := by omega
            have l4n : p4 ≤ 3 := by omega
            clear hp4 hm3 hd3 hq3 i3 hr3
            refine wp_region_flow_ext [] [0, 3, 13, 16, 17, 18] (by kernel_rfl) rfl (by kernel_rfl) ?_
            refine flow_keep0 (CutC 3 3) (by kernel_rfl) (CutC.stable_ rfl) ?_ ?_
            · intro u
              go_simp
              exact ⟨⟨_, rfl, RowC.mk_ (size_ext ..).symm (ints3 (inJ (by decide)) (inJ (by decide)) (inJ (by decide)))⟩, onW_alloc rfl ⟨u, rfl⟩⟩
            repeat (refine flow_known (by kernel_rfl) (fun K hK => ?_); go_simp; (first | (refine hK _ ?_; clear hK K) | (apply Exists.intro; refine ⟨fun _ => ?_, hK _ ?_⟩; (fail); clear hK K)))
            refine flow_keep [true] (CutC p4 3) (by kernel_rfl) (CutC.stable_ rfl) ?_ ?_
            · intro u
              try simp only [List.nil_append, List.cons_append, useH_f, useH_t, useH_nil]
              rintro _ ⟨g, rfl, hr⟩
              go_simp
              exact ⟨⟨g, rfl, hr⟩, onW_same ⟨_, rfl⟩⟩
            repeat (refine flow_known (by kernel_rfl) (fun K hK => ?_); go_simp; (first | (refine hK _ ?_; clear hK K) | (apply Exists.intro; refine ⟨fun _ => ?_, hK _ ?_⟩; (fail); clear hK K)))
            refine flow_keep0 (CutC 3 3) (by kernel_rfl) (CutC.stable_ rfl) ?_ ?_
            · intro u
              go_simp
              exact ⟨⟨_, rfl, RowC.mk_ (size_ext ..).symm (ints3 (inJ (by omega)) HI.out (inJ (by decide)))⟩, onW_alloc rfl ⟨u, rfl⟩⟩
            repeat (refine flow_known (by kernel_rfl) (fun K hK => ?_); go_simp; (first | (refine hK _ ?_; clear hK K) | (apply Exists.intro; refine ⟨fun _ => ?_, hK _ ?_⟩; (fail); clear hK K)))
            refine flow_keep [false, false, true] (CutC p4 3) (by kernel_rfl) (CutC.stable_ rfl) ?_ ?_
            · intro u
              try simp only [List.nil_append, List.cons_append, useH_f, useH_t, useH_nil]
              rintro _ ⟨g, rfl, hr⟩
              go_simp
              exact ⟨⟨g, rfl, hr⟩, onW_same ⟨_, rfl⟩⟩
            refine flow_keep [false, true, false, false] (CutC p4 3) (by kernel_rfl) (CutC.stable_ rfl) ?_ ?_
            · intro u
              try simp only [List.nil_append, List.cons_append, useH_f, useH_t, useH_nil]
              rintro _ ⟨g, rfl, hr⟩
              go_simp
              exact ⟨⟨g, rfl, hr⟩, onW_same ⟨_, rfl⟩⟩
            refine flow_keep [false, false, false, true, false] (CutC p4 3) (by kernel_rfl) (CutC.stable_ rfl) ?_ ?_
            · intro u
              try simp only [List.nil_append, List.cons_append, useH_f, useH_t, useH_nil]
              rintro _ ⟨g, rfl, hr⟩
              go_simp
              exact ⟨⟨g, rfl, hr⟩, onW_same ⟨_, rfl⟩⟩
            refine flow_done [true, true, true, true, true, true] (by kernel_rfl) ?_
            intro u4
            simp only [List.nil_append, List.cons_append, endH_f, endH_t, endH_nil]
            rintro _ - _ - _ - _ - _ ⟨g5, rfl, r5⟩ _ ⟨g6, rfl, r6⟩
            go_simp
            go_wp2_with fail
            go_meet
            exact ⟨g5, g6, rfl, rfl, r5, r6, Below.of_ext W2 u4 (Nat.le_refl _)⟩
          case rest =>
            obtain ⟨g5, g6, rfl, rfl, r5, r6, hb⟩ := hcut
            have R5 := hide r5; have R6 := hide r6
            have HA3 := hide (HA2.out.belowAll hb); have HC3 := hide (HC.out.belowAll hb)
            have HB3 := hide (HBW.out.trans (hb.mono hw2))
            have hw3 := hb.size
            obtain ⟨W3, hW3⟩ : ∃ W3, W3 = wc := ⟨_, rfl⟩
            subst hW3
            clear r5 r6 hb HA2 HC HBW HR2
            obtain ⟨m, hm⟩ : ∃ m, n % 17 = m := ⟨_, rfl⟩
            have em : (n : Int).tmod 17 = (m : Int) := by rw [← hm]; exact tmodN n 17
            have lm : m < 17 := by omega
            have HM := hide hm
            clear hm
            go_upto_block 2 with (fail)
            go_cut [5, 6] from 68 to 127 (fun s5 s6 wf => VarE wf s5 ∧ VarE wf s6 ∧ BoxE wf gp ∧ BoxE wf gq ∧ Below W0.heap.size W0 wf)
            case first =>
              have hm9 : m = 0 ∨ m = 1 ∨ m = 2 ∨ m = 3 ∨ m = 4 ∨ m = 5 ∨ m = 6 ∨ 7 ≤ m := by omega
              obtain ⟨r3, hr3⟩ : ∃ r3, n % 3 = r3 := ⟨_, rfl⟩
              have e3 : (n : Int).tmod 3 = (r3 : Int) := by rw [← hr3]; exact tmodN n 3
              have lr3 : r3 < 3 := by omega
              have li3 : (r3 : Int) < 3 := by omega
              obtain ⟨r2, hr2⟩ : ∃ r2, n % 2 = r2 := ⟨_, rfl⟩
              have e2 : (n : Int).tmod 2 = (r2 : Int) := by rw [← hr2]; exact tmodN n 2
              have lr2 : r2 < 2 := by omega
              have li2 : (r2 : Int) < 2 := by omega
              obtain ⟨s, hs⟩ : ∃ s, n / 17 = s := ⟨_, rfl⟩
              have es : (n : Int).tdiv 17 = (s : Int) := by rw [← hs]; exact tdivN n 17
              have ls : s ≤ 500 := by omega
              have ws : IntKind.i64.wrap (s : Int) = (s : Int) := IntWalk.i64_in _ (by omega)
              obtain ⟨s5, hs5⟩ : ∃ s5, s % 5 = s5 := ⟨_, rfl⟩
              have es5 : (s : Int).tmod 5 = (s5 : Int) := by rw [← hs5]; exact tmodN s 5
              have ls5 : s5 < 5 := by omega
              have lsi5 : (s5 : Int) < 5 := by omega
              obtain ⟨s4, hs4⟩ : ∃ s4, s % 4 = s4 := ⟨_, rfl⟩
              have es4 : (s : Int).tmod 4 = (s4 : Int) := by rw [← hs4]; exact tmodN s 4
              have ls4 : s4 < 4 := by omega
              have lsi4 : (s4 : Int) < 4 := by omega
              clear hr3 hr2 hs hs5 hs4 em
              have hw03 := HB3.out.size
              have ez3 : e0 < W3.heap.size := by omega
              have HR3 := hide (HR0.out.below HB3.out hez)
              obtain ⟨xe, ce, ie⟩ := HR3.out.cell (i := s5) ls5
              have HIE := hide ie
              obtain ⟨a0, a1, a2⟩ := HA3.out.cells
              obtain ⟨b0, b1, b2⟩ := HC3.out.cells
              have hgpl := HA3.out.lt
              have hgql := HC3.out.lt
              have VP5 := hide (fun (W : World) (h : RowC W g5 3) => (⟨_, _, _, rfl, h, by omega, by decide⟩ : VarE W (.slice (some ⟨g5, 0, none⟩) p4 3)))
              have VP6 := hide (fun (W : World) (h : RowC W g6 3) => (⟨_, _, _, rfl, h, by omega, by decide⟩ : VarE W (.slice (some ⟨g6, 0, none⟩) p4 3)))
              clear ie
              rcases hm9 with h | h | h | h | h | h | h | h
              · have k0 : ((m : Int) == 0) = true := by rw [beq_iff_eq]; omega
                clear h
                go_wp2_with fail
                refine wp_region_last_ext [] [4, 7, 8] 10 (by kernel_rfl) rfl rfl rfl (by kernel_rfl) (by kernel_rfl) ?_
                simp only [List.take_succ_cons, List.take_zero]
                repeat (refine flow_known (by kernel_rfl) (fun K hK => ?_); go_simp; (first | (refine hK _ ?_; clear hK K) | (apply Exists.intro; refine ⟨fun _ => ?_, hK _ ?_⟩; (fail); clear hK K)))
                refine flow_keep0 (CutC 2 2) (by kernel_rfl) (CutC.stable_ rfl) ?_ ?_
                · intro u
                  go_simp
                  exact ⟨⟨_, rfl, RowC.mk_ (size_ext ..).symm (ints2 (inJ (by decide)) (inJ (by decide)))⟩, onW_alloc rfl ⟨u, rfl⟩⟩
                repeat (refine flow_known (by kernel_rfl) (fun K hK => ?_); go_simp; (first | (refine hK _ ?_; clear hK K) | (apply Exists.intro; refine ⟨fun _ => ?_, hK _ ?_⟩; (fail); clear hK K)))
                refine flow_keep [true] (PtrC r2 2) (by kernel_rfl) (PtrC.stable_ rfl) ?_ ?_
                · intro u
                  try simp only [List.nil_append, List.cons_append, useH_f, useH_t, useH_nil]
                  rintro _ ⟨g, rfl, hr⟩
                  have hgl := hr.lt
                  go_simp
                  exact ⟨⟨g, rfl, hr⟩, onW_same ⟨_, rfl⟩⟩
                refine flow_keep [false, true] IntQ (by kernel_rfl) (IntQ.stable_) ?_ ?_
                · intro u
                  try simp only [List.nil_append, List.cons_append, useH_f, useH_t, useH_nil]
                  rintro _ ⟨g, rfl, hr⟩
                  have hgl := hr.lt
                  obtain ⟨x, hc, hi⟩ := hr.cell lr2
                  have HI := hide hi
                  clear hi
                  go_simp
                  exact ⟨⟨x, rfl, HI.out⟩, onW_same ⟨_, rfl⟩⟩
                repeat (refine flow_known (by kernel_rfl) (fun K hK => ?_); go_simp; (first | (refine hK _ ?_; clear hK K) | (apply Exists.intro; refine ⟨fun _ => ?_, hK _ ?_⟩; (fail); clear hK K)))
                refine flow_done [true, true, true] (by kernel_rfl) ?_
                intro u4
                simp only [List.nil_append, List.cons_append, endH_f, endH_t, endH_nil]
                rintro _ - _ - _ ⟨x, rfl, hx⟩
                have HX := hide hx
                clear hx
                go_simp
                obtain ⟨W4, hW4⟩ : ∃ W4, W3.ext u4 = W4 := ⟨_, rfl⟩
                have hb4 : Below W3.heap.size W3 W4 := by rw [← hW4]; exact Below.of_ext W3 u4 (Nat.le_refl _)
                have HA4 := hide (HA3.out.belowAll hb4); have HC4 := hide (HC3.out.belowAll hb4)
                have H54 := hide (R5.out.belowAll hb4); have H64 := hide (R6.out.belowAll hb4)
                have HB4 := hide (HB3.out.trans (hb4.mono hw03))
                have HG := hide (show RowC W4 ga2 3 from HA4.out.r2)
                have hgl := HG.out.lt
                obtain ⟨xo, co, _⟩ := HG.out.cell (i := r3) (by omega)
                have zo := HG.out.frozen r3
                rw [hW4]
                clear hW4 hb4 a0 a1 a2 b0 b1 b2 hgpl hgql ez3 ce
                go_wp2_with fail
                go_meet
                exact ⟨VP5.out _ (H54.out.set _ _ HX.out), VP6.out _ (H64.out.set _ _ HX.out), ⟨_, _, _, _, _, _, _, _, _, HA4.out.set HG.out HX.out⟩, ⟨_, _, _, _, _, _, _, _, _, HC4.out.set HG.out HX.out⟩, HB4.out.setCell (by show W0.heap.size ≤ ga2; omega) _⟩
              · have k0 : ((m : Int) == 0) = false := by rw [beq_eq_false_iff_ne]; omega
                have k1 : ((m : Int) == 1) = true := by rw [beq_iff_eq]; omega
                clear h
                go_wp2_with fail
                refine wp_region_last_ext [] [] 11 (by kernel_rfl) rfl rfl rfl (by kernel_rfl) (by kernel_rfl) ?_
                simp only [List.take_succ_cons, List.take_zero]
                repeat (refine flow_known (by kernel_rfl) (fun K hK => ?_); go_simp; (first | (refine hK _ ?_; clear hK K) | (apply Exists.intro; refine ⟨fun _ => ?_, hK _ ?_⟩; (fail); clear hK K)))
                refine flow_done [] (by kernel_rfl) ?_
                intro u4
                simp only [List.nil_append, List.cons_append, endH_f, endH_t, endH_nil]
                have HX := hide HIE.out
                go_simp
                obtain ⟨W4, hW4⟩ : ∃ W4, W3.ext u4 = W4 := ⟨_, rfl⟩
                have hb4 : Below W3.heap.size W3 W4 := by rw [← hW4]; exact Below.of_ext W3 u4 (Nat.le_refl _)
                have HA4 := hide (HA3.out.belowAll hb4); have HC4 := hide (HC3.out.belowAll hb4)
                have H54 := hide (R5.out.belowAll hb4); have H64 := hide (R6.out.belowAll hb4)
                have HB4 := hide (HB3.out.trans (hb4.mono hw03))
                have HG := hide (show RowC W4 ga3 3 from HA4.out.r3)
                have hgl := HG.out.lt
                obtain ⟨xo, co, _⟩ := HG.out.cell (i := r3) (by omega)
                have zo := HG.out.frozen r3
                rw [hW4]
                clear hW4 hb4 a0 a1 a2 b0 b1 b2 hgpl hgql ez3 ce
                go_wp2_with fail
                go_meet
                exact ⟨VP5.out _ (H54.out.set _ _ HX.out), VP6.out _ (H64.out.set _ _ HX.out), ⟨_, _, _, _, _, _, _, _, _, HA4.out.set HG.out HX.out⟩, ⟨_, _, _, _, _, _, _, _, _, HC4.out.set HG.out HX.out⟩, HB4.out.setCell (by show W0.heap.size ≤ ga3; omega) _⟩
              · have k0 : ((m : Int) == 0) = false := by rw [beq_eq_false_iff_ne]; omega
                have k1 : ((m : Int) == 1) = false := by rw [beq_eq_false_iff_ne]; omega
                have k2 : ((m : Int) == 2) = true := by rw [beq_iff_eq]; omega
                have z2 := HA3.out.frozen 2
                clear h
                go_wp2_with fail
                go_meet
                exact ⟨VP5.out _ (R5.out.other HA3.out 2 _), VP6.out _ (R6.out.other HA3.out 2 _), HA3.out.field2 ⟨by decide, by decide⟩ (Below.refl _ _) (HA3.out.r3.other HA3.out 2 _), ⟨_, _, _, _, _, _, _, _, _, HA3.out.other HC3.out hpq 2 _⟩, HB3.out.setCell (by show W0.heap.size ≤ gp; omega) _⟩
              · have k0 : ((m : Int) == 0) = false := by rw [beq_eq_false_iff_ne]; omega
                have k1 : ((m : Int) == 1) = false := by rw [beq_eq_false_iff_ne]; omega
                have k2 : ((m : Int) == 2) = false := by rw [beq_eq_false_iff_ne]; omega
                have k3 : ((m : Int) == 3) = true := by rw [beq_iff_eq]; omega
                have z0 := HC3.out.frozen 0
                clear h
                go_wp2_with fail
                go_meet
                exact ⟨VP5.out _ ((R5.out.other HC3.out 0 _).alloc _), VP6.out _ ((R6.out.other HC3.out 0 _).alloc _), ⟨_, _, _, _, _, _, _, _, _, (HC3.out.other HA3.out (Ne.symm hpq) 0 _).belowAll ((Below.refl _ _).alloc (Nat.le_refl _) _)⟩, HC3.out.field0 ⟨by decide, by decide⟩ ((Below.refl _ _).alloc (by simp) _) (RowC.mk_ (by simp) (ints2 (inJ (by decide)) (inJ (by decide)))), (HB3.out.setCell (by show W0.heap.size ≤ gq; omega) _).alloc (by simp; omega) _⟩
              · have k0 : ((m : Int) == 0) = false := by rw [beq_eq_false_iff_ne]; omega
                have k1 : ((m : Int) == 1) = false := by rw [beq_eq_false_iff_ne]; omega
                have k2 : ((m : Int) == 2) = false := by rw [beq_eq_false_iff_ne]; omega
                have k3 : ((m : Int) == 3) = false := by rw [beq_eq_false_iff_ne]; omega
                have k4 : ((m : Int) == 4) = true := by rw [beq_iff_eq]; omega
                clear h
                go_wp2_with fail
                refine wp_region_last_ext [] [4, 8, 9] 11 (by kernel_rfl) rfl rfl rfl (by kernel_rfl) (by kernel_rfl) ?_
                simp only [List.take_succ_cons, List.take_zero]
                repeat (refine flow_known (by kernel_rfl) (fun K hK => ?_); go_simp; (first | (refine hK _ ?_; clear hK K) | (apply Exists.intro; refine ⟨fun _ => ?_, hK _ ?_⟩; (fail); clear hK K)))
                refine flow_keep0 (CutC 4 4) (by kernel_rfl) (CutC.stable_ rfl) ?_ ?_
                · intro u
                  go_simp
                  exact ⟨⟨_, rfl, RowC.mk_ (size_ext ..).symm (ints4 (inJ (by decide)) (inJ (by decide)) (inJ (by decide)) (inJ (by decide)))⟩, onW_alloc rfl ⟨u, rfl⟩⟩
                repeat (refine flow_known (by kernel_rfl) (fun K hK => ?_); go_simp; (first | (refine hK _ ?_; clear hK K) | (apply Exists.intro; refine ⟨fun _ => ?_, hK _ ?_⟩; (fail); clear hK K)))
                refine flow_keep [true] (PtrC s4 4) (by kernel_rfl) (PtrC.stable_ rfl) ?_ ?_
                · intro u
                  try simp only [List.nil_append, List.cons_append, useH_f, useH_t, useH_nil]
                  rintro _ ⟨g, rfl, hr⟩
                  have hgl := hr.lt
                  go_simp
                  exact ⟨⟨g, rfl, hr⟩, onW_same ⟨_, rfl⟩⟩
                refine flow_keep [false, true] IntQ (by kernel_rfl) (IntQ.stable_) ?_ ?_
                · intro u
                  try simp only [List.nil_append, List.cons_append, useH_f, useH_t, useH_nil]
                  rintro _ ⟨g, rfl, hr⟩
                  have hgl := hr.lt
                  obtain ⟨x, hc, hi⟩ := hr.cell ls4
                  have HI := hide hi
                  clear hi
                  go_simp
                  exact ⟨⟨x, rfl, HI.out⟩, onW_same ⟨_, rfl⟩⟩
                repeat (refine flow_known (by kernel_rfl) (fun K hK => ?_); go_simp; (first | (refine hK _ ?_; clear hK K) | (apply Exists.intro; refine ⟨fun _ => ?_, hK _ ?_⟩; (fail); clear hK K)))
                refine flow_done [true, true, true] (by kernel_rfl) ?_
                intro u4
                simp only [List.nil_append, List.cons_append, endH_f, endH_t, endH_nil]
                rintro _ - _ - _ ⟨x, rfl, hx⟩
                have HX := hide hx
                clear hx
                go_simp
                obtain ⟨W4, hW4⟩ : ∃ W4, W3.ext u4 = W4 := ⟨_, rfl⟩
                have hb4 : Below W3.heap.size W3 W4 := by rw [← hW4]; exact Below.of_ext W3 u4 (Nat.le_refl _)
                have HA4 := hide (HA3.out.belowAll hb4); have HC4 := hide (HC3.out.belowAll hb4)
                have H54 := hide (R5.out.belowAll hb4); have H64 := hide (R6.out.belowAll hb4)
                have HB4 := hide (HB3.out.trans (hb4.mono hw03))
                have HG := hide (show RowC W4 gb1 2 from HC4.out.r1)
                have hgl := HG.out.lt
                obtain ⟨xo, co, _⟩ := HG.out.cell (i := r2) (by omega)
                have zo := HG.out.frozen r2
                rw [hW4]
                clear hW4 hb4 a0 a1 a2 b0 b1 b2 hgpl hgql ez3 ce
                go_wp2_with fail
                go_meet
                exact ⟨VP5.out _ (H54.out.set _ _ HX.out), VP6.out _ (H64.out.set _ _ HX.out), ⟨_, _, _, _, _, _, _, _, _, HA4.out.set HG.out HX.out⟩, ⟨_, _, _, _, _, _, _, _, _, HC4.out.set HG.out HX.out⟩, HB4.out.setCell (by show W0.heap.size ≤ gb1; omega) _⟩
              · have k0 : ((m : Int) == 0) = false := by rw [beq_eq_false_iff_ne]; omega
                have k1 : ((m : Int) == 1) = false := by rw [beq_eq_false_iff_ne]; omega
                have k2 : ((m : Int) == 2) = false := by rw [beq_eq_false_iff_ne]; omega
                have k3 : ((m : Int) == 3) = false := by rw [beq_eq_false_iff_ne]; omega
                have k4 : ((m : Int) == 4) = false := by rw [beq_eq_false_iff_ne]; omega
                have k5 : ((m : Int) == 5) = true := by rw [beq_iff_eq]; omega
                clear h
                go_wp2_with fail
                go_meet
                exact ⟨⟨_, _, _, rfl, RowC.mk_ rfl (ints2 (inJ (by decide)) (inJ (by decide))), by decide, by decide⟩, VP6.out _ (R6.out.alloc _), ⟨_, _, _, _, _, _, _, _, _, HA3.out.belowAll ((Below.refl _ _).alloc (Nat.le_refl _) _)⟩, ⟨_, _, _, _, _, _, _, _, _, HC3.out.belowAll ((Below.refl _ _).alloc (Nat.le_refl _) _)⟩, HB3.out.alloc hw03 _⟩
              · have k0 : ((m : Int) == 0) = false := by rw [beq_eq_false_iff_ne]; omega
                have k1 : ((m : Int) == 1) = false := by rw [beq_eq_false_iff_ne]; omega
                have k2 : ((m : Int) == 2) = false := by rw [beq_eq_false_iff_ne]; omega
                have k3 : ((m : Int) == 3) = false := by rw [beq_eq_false_iff_ne]; omega
                have k4 : ((m : Int) == 4) = false := by rw [beq_eq_false_iff_ne]; omega
                have k5 : ((m : Int) == 5) = false := by rw [beq_eq_false_iff_ne]; omega
                have k6 : ((m : Int) == 6) = true := by rw [beq_iff_eq]; omega
                clear h
                go_wp2_with fail
                go_meet
                exact ⟨VP5.out _ (R5.out.alloc _), ⟨_, _, _, rfl, RowC.mk_ rfl (ints2 HIE.out (inJ (by decide))), by decide, by decide⟩, ⟨_, _, _, _, _, _, _, _, _, HA3.out.belowAll ((Below.refl _ _).alloc (Nat.le_refl _) _)⟩, ⟨_, _, _, _, _, _, _, _, _, HC3.out.belowAll ((Below.refl _ _).alloc (Nat.le_refl _) _)⟩, HB3.out.alloc hw03 _⟩
              · have k0 : ((m : Int) == 0) = false := by rw [beq_eq_false_iff_ne]; omega
                have k1 : ((m : Int) == 1) = false := by rw [beq_eq_false_iff_ne]; omega
                have k2 : ((m : Int) == 2) = false := by rw [beq_eq_false_iff_ne]; omega
                have k3 : ((m : Int) == 3) = false := by rw [beq_eq_false_iff_ne]; omega
                have k4 : ((m : Int) == 4) = false := by rw [beq_eq_false_iff_ne]; omega
                have k5 : ((m : Int) == 5) = false := by rw [beq_eq_false_iff_ne]; omega
                have k6 : ((m : Int) == 6) = false := by rw [beq_eq_false_iff_ne]; omega
                clear h
                go_wp2_with fail
                go_meet
                exact ⟨VP5.out _ R5.out, VP6.out _ R6.out, ⟨_, _, _, _, _, _, _, _, _, HA3.out⟩, ⟨_, _, _, _, _, _, _, _, _, HC3.out⟩, HB3.out⟩
            case rest =>
              obtain ⟨v5, v6, ba, bb, hb⟩ := hcut
              obtain ⟨h5, k5, d5, rfl, r5, l5, l5'⟩ := v5
              obtain ⟨h6, k6, d6, rfl, r6, l6, l6'⟩ := v6
              obtain ⟨a1, an1, ak1, a2, an2, ak2, a3, an3, ak3, ha⟩ := ba
              obtain ⟨b1, bn1, bk1, b2, bn2, bk2, b3, bn3, bk3, hbb⟩ := bb
              obtain ⟨W4, hW4⟩ : ∃ W4, W4 = wc := ⟨_, rfl⟩
              subst hW4
              obtain ⟨x5, s5⟩ := r5.sl l5 (by omega)
              obtain ⟨x6, s6⟩ := r6.sl l6 (by omega)
              obtain ⟨bx, hbx, hx1, hx2, hx3⟩ := ha.brief
              obtain ⟨bY, hby, hy1, hy2, hy3⟩ := hbb.brief
              have hsz : ∀ (k : Nat) (b : Brief), b ∈ [bx, bY, bx].take k → b.vars.length ≤ 1048576 ∧ b.colors.length ≤ 1048576 ∧ b.edge.length ≤ 1048576 := fun k b hb => by
                have := List.mem_of_mem_take hb
                simp only [List.mem_cons, List.not_mem_nil, or_false] at this
                rcases this with rfl | rfl | rfl
                · exact ⟨hx1, hx2, hx3⟩
                · exact ⟨hy1, hy2, hy3⟩
                · exact ⟨hx1, hx2, hx3⟩
              have e4 : (n : Int).tmod 4 = (p4 : Int) := by rw [← hp4]; exact tmodN n 4
              have l4 : (p4 : Int) ≤ 3 := by omega
              have l4n : p4 ≤ 3 := by omega
              have HB4 := hide hb
              have hw4 := hb.size
              obtain ⟨ya0, ya1, ya2⟩ := ha.cells
              obtain ⟨yb0, yb1, yb2⟩ := hbb.cells
              have hgpl := ha.lt
              have hgql := hbb.lt
              have hl : Sl (W4.alloc (.cells #[.slice (some ⟨a1, 0, none⟩) an1 ak1, .slice (some ⟨a2, 0, none⟩) an2 ak2, .slice (some ⟨a3, 0, none⟩) an3 ak3, .slice (some ⟨b1, 0, none⟩) bn1 bk1, .slice (some ⟨b2, 0, none⟩) bn2 bk2, .slice (some ⟨b3, 0, none⟩) bn3 bk3, .slice (some ⟨a1, 0, none⟩) an1 ak1, .slice (some ⟨a2, 0, none⟩) an2 ak2, .slice (some ⟨a3, 0, none⟩) an3 ak3] 43)) (fun _ => True) (some ⟨W4.heap.size, 0, none⟩) 3 3 [bx, bY, bx] :=
                Sl.lit (S := fun _ => True) (us := [.slice (some ⟨a1, 0, none⟩) an1 ak1, .slice (some ⟨a2, 0, none⟩) an2 ak2, .slice (some ⟨a3, 0, none⟩) an3 ak3, .slice (some ⟨b1, 0, none⟩) bn1 bk1, .slice (some ⟨b2, 0, none⟩) bn2 bk2, .slice (some ⟨b3, 0, none⟩) bn3 bk3, .slice (some ⟨a1, 0, none⟩) an1 ak1, .slice (some ⟨a2, 0, none⟩) an2 ak2, .slice (some ⟨a3, 0, none⟩) an3 ak3]) rfl (briefs3 hbx hby) rfl (by decide) (fun _ h => h) trivial
              have HTL := hide (briefTells_any _ _ _ _ _ _ (hl.take_ l4n) (by omega) (hsz p4))
              have HWO := hide (fun (W : World) (hb : Below W4.heap.size W4 W) (hs : Sl W (fun _ => True) (some ⟨W4.heap.size, 0, none⟩) p4 3 ([bx, bY, bx].take p4)) => briefWorth_any W _ _ _ _ k5 d5 k6 d6 p4 3 x5 x6 _ (s5.belowAll hb) (s6.belowAll hb) hs (by omega) (by omega) (by omega) (hsz p4))
              have HLT := hide (hl.take_ l4n)
              clear hp4 hl hsz hbx hby hx1 hx2 hx3 hy1 hy2 hy3 s5 s6 r5 r6 ha hbb hb HM em R5 R6 HA3 HC3 HB3
              go_wp2_with (first
                | (go_at_call 4; (with_reducible refine HTL.out.mono ?_); rintro e W5 ⟨rfl, hb⟩; have HB5 := hide hb; clear hb)
                | (go_at_call 3; (with_reducible refine (HWO.out W5 (((Below.refl _ _).alloc (Nat.le_refl _) _).trans (HB5.out.mono (by simp))) (HLT.out.belowAll HB5.out)).mono ?_); rintro e W6 ⟨rfl, hb⟩; have HB6 := hide hb; clear hb))
              have hw5 := HB5.out.size
              exact ⟨⟨n + 1, by omega, by go_num, ((HB4.out.alloc hw4 _).trans (HB5.out.mono (by simp; omega))).trans (HB6.out.mono (by simp at hw5; omega))⟩, by simp [intOf]; omega⟩
    · have hn15 : n = 1500 := by omega
      subst hn15
      obtain ⟨i0, hi, hz, hz1, hz2⟩ := info_parts info_BriefZ
      have HI0 := hide hi; have HZ := hide hz; have HZ1 := hide hz1; have HZ2 := hide hz2
      clear hi hz hz1 hz2
      go_wp2_with (at_make; refine wpList_make_rows _ rfl _ _ 23 rfl 43 i0 _ Tryz.underlying23 HI0.out HZ.out 3 HZ1.out #[.slice none 0 0, .slice none 0 0, .slice none 0 0] rfl _ _ 201 rfl rfl (by rw [HZ2.out]; omega) (by omega) ?_; refine Hd.out ?_)
      obtain ⟨M, hM⟩ : ∃ M, wr.alloc (.cells (madeCells #[.slice none 0 0, .slice none 0 0, .slice none 0 0] (201 * 3)) 43) = M := ⟨_, rfl⟩
      obtain ⟨gm, hgm⟩ : ∃ gm, wr.heap.size = gm := ⟨_, rfl⟩
      have HOM := hide (show Sl M (fun _ => True) (some ⟨gm, 0, none⟩) 201 201 (List.replicate 201 (⟨[], [], []⟩ : Brief)) from by
        have h := OwnL.made (α := Brief) (n := 201) (S := fun _ => False) (T := 43) (w := wr) (base := wr.heap.size) (x := ⟨[], [], []⟩) (z := #[.slice none 0 0, .slice none 0 0, .slice none 0 0]) rfl (by decide) (Brief.mk_ Sl.nil Sl.nil Sl.nil) (by unfold maxLen; omega) (Nat.le_refl _) (fun h => h) rfl
        rw [← hM, ← hgm]
        exact h.sl fun _ _ _ => trivial)
      have HBM := hide (show Below W0.heap.size W0 M by rw [← hM]; exact HBQ.out.alloc hwq _)
      have hsz : ∀ (k : Nat) (b : Brief), b ∈ (List.replicate 201 (⟨[], [], []⟩ : Brief)).take k → b.vars.length ≤ 1048576 ∧ b.colors.length ≤ 1048576 ∧ b.edge.length ≤ 1048576 := fun k b hb => by
        have h := List.mem_of_mem_take hb
        rw [List.eq_of_mem_replicate h]
        exact ⟨by decide, by decide, by decide⟩
      have HWO := hide (fun (Y : World) (k : Nat) (hk : k ≤ 201) (hb : Below M.heap.size M Y) => show Calls Tryz.prog 3 #[.slice (some ⟨Y.heap.size, 0, none⟩) 1 1, .slice (some ⟨Y.heap.size + 1, 0, none⟩) 1 1, .slice (some ⟨gm, 0, none⟩) k 201] ((Y.alloc (.cells #[.int .i64 1] 3)).alloc (.cells #[.int .i64 1] 3)) _ from
        briefWorth_any ((Y.alloc (.cells #[.int .i64 1] 3)).alloc (.cells #[.int .i64 1] 3)) (fun _ => True) (some ⟨Y.heap.size, 0, none⟩) (some ⟨Y.heap.size + 1, 0, none⟩) (some ⟨gm, 0, none⟩) 1 1 1 1 k 201 [1] [1] _
          ((Sl.lit (S := fun _ => False) (us := [.int .i64 1]) rfl (RepL.ints [1] (by intro x hx; simp at hx; rw [hx]; exact inJ (by decide))) rfl (by decide) (fun _ h => h.elim) trivial).alloc _)
          (Sl.lit (S := fun _ => False) (us := [.int .i64 1]) (by simp) (RepL.ints [1] (by intro x hx; simp at hx; rw [hx]; exact inJ (by decide))) rfl (by decide) (fun _ h => h.elim) trivial)
          ((((HOM.out.belowAll hb).alloc _).alloc _).take_ hk) (by decide) (by decide) (by omega) (hsz k))
      have HTN := hide (fun (Y : World) => briefTells_any Y (fun _ => True) none 0 0 [] Sl.nil (by decide) (fun b h => by cases h))
      rw [hM, hgm]
      have hwm := HBM.out.size
      clear hM hgm hsz
      refine hide ?_
      go_wp2_with (first
        | (go_at_call 3; (with_reducible refine (HWO.out M 201 (by decide) (Below.refl _ _)).mono ?_); rintro e M1 ⟨rfl, hb⟩; have HB1 := hide (show Below M.heap.size M M1 from (((Below.refl _ _).alloc (Nat.le_refl _) _).alloc (by simp) _).trans (hb.mono (by simp; omega))); clear hb)
        | (go_at_call 3; (with_reducible refine (HWO.out M1 200 (by decide) HB1.out).mono ?_); rintro e M2 ⟨rfl, hb⟩; have HB2 := hide (show Below M1.heap.size M1 M2 from (((Below.refl _ _).alloc (Nat.le_refl _) _).alloc (by simp) _).trans (hb.mono (by simp; omega))); clear hb)
        | (go_at_call 4; (with_reducible refine (HTN.out M2).mono ?_); rintro e M3 ⟨rfl, hb⟩; have HB3 := hide hb; clear hb)
        | (go_at_call 7; refine (awake23_any _).mono ?_; rintro e _ ⟨rfl, u12, rfl⟩))
      go_ret
      have h1 := HB1.out.size
      have h2 := HB2.out.size
      have h3 := HB3.out.size
      have hb3 := ((HBM.out.trans (HB1.out.mono hwm)).trans (HB2.out.mono (by omega))).trans (HB3.out.mono (by omega))
      exact ⟨rfl, HB0.out.trans ((hb3.ext (by omega) u12).mono HB0.out.size)⟩
end Go.Proofs.YthmglmmafgdmhaaGreat
