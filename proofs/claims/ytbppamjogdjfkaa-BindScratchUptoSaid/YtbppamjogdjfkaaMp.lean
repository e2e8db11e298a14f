/- Maps of the call's own, as plain functions. -/
import Derived.Test.YtbppamjogdjfkaaBase
import Derived.Maps.Own
import Derived.Maps.OwnOps
import Derived.Maps.OwnSet
import Derived.Maps.Views
import Derived.Maps.RangeWalk
set_option linter.unusedSimpArgs false
set_option linter.unusedVariables false
namespace Go.Proofs.Ytbppamjogdjfkaa
open Go.RowKit Go.Maps

/-- What a map's keys are. -/
structure KeyT (P : Program) (α : Type) where
  t : TypeId
  good : α → Prop
  val : α → Value
  lit : α → Lit
  law : Keyed P t
  of : ∀ x, good x → keyOf P t (val x) = some (lit x)
  inv : ∀ v l, keyOf P t v = some l → ∃ x, good x ∧ v = val x ∧ l = lit x
  inj : ∀ x y, good x → good y → lit x = lit y → x = y
/-- What a map's elements are. -/
structure ElT (P : Program) (β : Type) where
  e : TypeId
  R : Value → Option (DataW Unit × List MemPlace)
  good : β → Prop
  val : β → Value
  dat : β → DataW Unit
  zero : β
  of : ∀ y, good y → R (val y) = some (dat y, [])
  inv : ∀ v z, R v = some z → ∃ y, good y ∧ v = val y ∧ z.1 = dat y
  inj : ∀ x y, dat x = dat y → x = y
  good0 : good zero
  zero_run : ∀ w, (zeroValue e).run P w = .ok (val zero) w
def upd {α β : Type} [DecidableEq α] (f : α → Option β) (x : α) (y : Option β) : α → Option β := fun z => if z = x then y else f z

section
variable {P : Program} {α β : Type} {K : KeyT P α} {E : ElT P β} {w w' : World} {b n : Nat} {f : α → Option β}
/-- Block b is a map of at most n entries: f. -/
def MapP (K : KeyT P α) (E : ElT P β) (w : World) (b n : Nat) (f : α → Option β) : Prop :=
  ∃ D, w.ownsMap P K.t E.R b n D ∧ (∀ x, K.good x → Maps.has D (K.lit x) = (f x).isSome ∧ ∀ y, f x = some y → E.good y ∧ ∀ z, D.atKey (K.lit x) z = E.dat y) ∧ ∀ x, (f x).isSome = true → K.good x
theorem MapP.lt (h : MapP K E w b n f) : b < w.heap.size := by obtain ⟨D, h, _⟩ := h; exact h.lt
theorem MapP.kept {row : Option Nat} (h : MapP K E w b n f) (hg : w.grownBy w' row) (hne : some b ≠ row) : MapP K E w' b n f := by
  obtain ⟨D, h1, h2⟩ := h; exact ⟨D, h1.kept hg hne, h2⟩
theorem MapP.keep (h : MapP K E w b n f) (hk : w'.heap[b]? = w.heap[b]?) : MapP K E w' b n f := by
  obtain ⟨D, ⟨es, clock, hb, r⟩, h2⟩ := h; exact ⟨D, ⟨es, clock, hk.trans hb, r⟩, h2⟩
theorem MapP.alloc (h : MapP K E w b n f) (o : Obj) : MapP K E (w.alloc o) b n f := h.keep (Below.heap_alloc w o b h.lt)
theorem MapP.ext (h : MapP K E w b n f) (u : Ext) : MapP K E (w.ext u) b n f := h.keep (ext_block w u b h.lt)
theorem MapP.drew (h : MapP K E w b n f) : MapP K E w.drew b n f := h.keep rfl
theorem MapP.setCell (h : MapP K E w b n f) {a : Addr} (ha : b ≠ a.block) (u : Value) : MapP K E (w.setCell a u) b n f := h.keep (Below.heap_setCell w a u b ha)
theorem MapP.mono (h : MapP K E w b n f) {n' : Nat} (hn : n ≤ n') : MapP K E w b n' f := by obtain ⟨D, h1, h2⟩ := h; exact ⟨D, h1.mono hn, h2⟩
theorem MapP.made (w : World) : MapP K E (w.alloc (.map #[] 0)) w.heap.size 0 (fun _ => none) :=
  ⟨.map [], World.ownsMap_made w P K.t E.R, fun x _ => ⟨by simp [Maps.has], fun y hy => by cases hy⟩, fun x hx => by cases hx⟩
theorem MapP.good (h : MapP K E w b n f) {x : α} {y : β} (hy : f x = some y) : K.good x ∧ E.good y := by
  obtain ⟨D, _, h2, h3⟩ := h
  have hx := h3 x (by rw [hy]; rfl)
  exact ⟨hx, ((h2 x hx).2 y hy).1⟩
theorem MapP.getD_good (h : MapP K E w b n f) (x : α) : E.good ((f x).getD E.zero) := by
  cases hf : f x with
  | none => exact E.good0
  | some y => exact (h.good hf).2
theorem getD_zero {D : DataW Unit} {x : α} (h1 : Maps.has D (K.lit x) = (f x).isSome) (h2 : ∀ y, f x = some y → E.good y ∧ ∀ z, D.atKey (K.lit x) z = E.dat y) : D.atKey (K.lit x) (E.dat E.zero) = E.dat ((f x).getD E.zero) := by
  cases hf : f x with
  | none => rw [hf] at h1; exact Maps.atKey_of_not_has h1 _
  | some y => exact (h2 y hf).2 _
/-- m[x] -/
theorem MapP.get (h : MapP K E w b n f) {t : TypeId} (ht : P.underlying t = some (.map K.t E.e)) {x : α} (hx : K.good x) : (Instr.lookup t (.map (some b)) (K.val x) false).run P w = .ok (E.val ((f x).getD E.zero)) w := by
  obtain ⟨D, h1, h2, h3⟩ := h
  obtain ⟨v, ps, hrun, hv⟩ := h1.lookup K.law ht (E.zero_run w) (E.of _ E.good0) (K.of x hx)
  obtain ⟨y, hy, rfl, hd⟩ := E.inv _ _ hv
  rw [hrun]
  have := getD_zero (E := E) (h2 x hx).1 (h2 x hx).2
  rw [this] at hd
  rw [E.inj _ _ hd]
/-- v, ok := m[x] -/
theorem MapP.getOk (h : MapP K E w b n f) {t : TypeId} (ht : P.underlying t = some (.map K.t E.e)) {x : α} (hx : K.good x) : (Instr.lookup t (.map (some b)) (K.val x) true).run P w = .ok (.tuple #[E.val ((f x).getD E.zero), .bool (f x).isSome]) w := by
  obtain ⟨D, h1, h2, h3⟩ := h
  obtain ⟨v, ps, hrun, hv⟩ := h1.look_ok K.law ht (E.zero_run w) (E.of _ E.good0) (K.of x hx)
  obtain ⟨y, hy, rfl, hd⟩ := E.inv _ _ hv
  rw [hrun]
  have := getD_zero (E := E) (h2 x hx).1 (h2 x hx).2
  rw [this] at hd
  rw [E.inj _ _ hd, (h2 x hx).1]
/-- m[x] = y -/
theorem MapP.put [DecidableEq α] (h : MapP K E w b n f) {t : TypeId} (ht : P.underlying t = some (.map K.t E.e)) (hn : n < maxLen) {x : α} (hx : K.good x) {y : β} (hy : E.good y) :
    ∃ w', (Instr.mapUpdate t (.map (some b)) (K.val x) (E.val y)).run P w = .ok () w' ∧ MapP K E w' b (n + 1) (upd f x (some y)) ∧ w.grownBy w' (some b) := by
  obtain ⟨D, h1, h2, h3⟩ := h
  obtain ⟨w', hrun, ho, hg⟩ := h1.update K.law ht hn (K.of x hx) (E.of y hy)
  have hk := K.law.key (K.of x hx)
  refine ⟨w', hrun, ⟨_, ho, fun z hz => ?_, fun z hz => ?_⟩, hg⟩
  · by_cases e : z = x
    · subst e
      refine ⟨by rw [Maps.has_put_same h1.isMap hk]; simp [upd], fun y' hy' => ?_⟩
      simp [upd] at hy'; subst hy'
      exact ⟨hy, fun d => Maps.atKey_put_same h1.isMap hk _ d⟩
    · have hne : K.lit z ≠ K.lit x := fun h => e (K.inj _ _ hz hx h)
      refine ⟨by rw [Maps.has_put_other hne, (h2 z hz).1]; simp [upd, e], fun y' hy' => ?_⟩
      simp [upd, e] at hy'
      exact ⟨((h2 z hz).2 y' hy').1, fun d => by rw [Maps.atKey_put_other hne]; exact ((h2 z hz).2 y' hy').2 d⟩
  · by_cases e : z = x
    · subst e; exact hx
    · simp [upd, e] at hz; exact h3 z hz
/-- delete(m, x) -/
theorem MapP.del [DecidableEq α] (h : MapP K E w b n f) {t : TypeId} (ht : P.underlying t = some (.map K.t E.e)) (ty : TypeId) {x : α} (hx : K.good x) :
    ∃ w', (Builtin.delete_ #[t, K.t] ty #[.map (some b), K.val x]).run P w = .ok (.tuple #[]) w' ∧ MapP K E w' b n (upd f x none) ∧ w.grownBy w' (some b) := by
  obtain ⟨D, h1, h2, h3⟩ := h
  obtain ⟨w', hrun, ho, hg⟩ := h1.drop K.law ht (K.of x hx) ty
  refine ⟨w', hrun, ⟨_, ho, fun z hz => ?_, fun z hz => ?_⟩, hg.grown⟩
  · by_cases e : z = x
    · subst e
      refine ⟨by rw [Maps.has_del_same]; simp [upd], fun y' hy' => ?_⟩
      simp [upd] at hy'
    · have hne : K.lit z ≠ K.lit x := fun h => e (K.inj _ _ hz hx h)
      refine ⟨by rw [Maps.has_del_other hne, (h2 z hz).1]; simp [upd, e], fun y' hy' => ?_⟩
      simp [upd, e] at hy'
      exact ⟨((h2 z hz).2 y' hy').1, fun d => by rw [Maps.atKey_del_other hne]; exact ((h2 z hz).2 y' hy').2 d⟩
  · by_cases e : z = x
    · subst e; exact hx
    · simp [upd, e] at hz; exact h3 z hz
/-- How many keys there are. -/
def Cnt (f : α → Option β) (c : Nat) : Prop := ∃ ks : List α, ks.Nodup ∧ (∀ x, x ∈ ks ↔ (f x).isSome = true) ∧ ks.length = c
theorem Cnt.one {c c' : Nat} (h : Cnt f c) (h' : Cnt f c') : c = c' := by
  obtain ⟨ks, h1, h2, rfl⟩ := h
  obtain ⟨ks', h1', h2', rfl⟩ := h'
  exact ((List.perm_ext_iff_of_nodup h1 h1').2 fun x => (h2 x).trans (h2' x).symm).length_eq
/-- The keys of a map. -/
theorem MapP.keys (h : MapP K E w b n f) : ∃ D, w.ownsMap P K.t E.R b n D ∧ Cnt f (Maps.size D) := by
  obtain ⟨D, h1, h2, h3⟩ := h
  refine ⟨D, h1, ?_⟩
  obtain ⟨es, clock, hb, F, hs, rfl⟩ := h1
  have hinv : ∀ p ∈ es.toList.map (WideElems.rg P K.t E.R), ∃ x, K.good x ∧ p.1 = K.lit x := fun p hp => by
    obtain ⟨v, hv⟩ := Maps.fit_keys F p hp
    obtain ⟨x, hx, _, hl⟩ := K.inv _ _ hv
    exact ⟨x, hx, hl⟩
  have hap := Maps.fit_apart K.law F
  have key : ∀ l : List (Lit × DataW Unit), (∀ p ∈ l, ∃ x, K.good x ∧ p.1 = K.lit x) → l.Pairwise (fun p q => p.1 ≠ q.1) → ∃ ks : List α, ks.Nodup ∧ ks.length = l.length ∧ (∀ x ∈ ks, K.good x) ∧ ∀ x, K.good x → (x ∈ ks ↔ ∃ p ∈ l, p.1 = K.lit x) := by
    intro l
    induction l with
    | nil => intro _ _; exact ⟨[], by simp, rfl, by simp, by simp⟩
    | cons p l ih =>
      intro hl hp
      rw [List.pairwise_cons] at hp
      obtain ⟨ks, k1, k2, k3, k4⟩ := ih (fun q hq => hl q (List.mem_cons_of_mem _ hq)) hp.2
      obtain ⟨x, hx, hpx⟩ := hl p List.mem_cons_self
      refine ⟨x :: ks, List.nodup_cons.2 ⟨fun hm => ?_, k1⟩, by simp [k2], fun y hy => ?_, fun y hgy => ?_⟩
      · obtain ⟨q, hq, hqx⟩ := (k4 x hx).1 hm
        exact hp.1 q hq (hpx.trans hqx.symm)
      · rcases List.mem_cons.1 hy with rfl | hy
        · exact hx
        · exact k3 y hy
      · rw [List.mem_cons, k4 y hgy]
        constructor
        · rintro (rfl | ⟨q, hq, h⟩)
          · exact ⟨p, List.mem_cons_self, hpx⟩
          · exact ⟨q, List.mem_cons_of_mem _ hq, h⟩
        · rintro ⟨q, hq, h⟩
          rcases List.mem_cons.1 hq with rfl | hq
          · exact .inl (K.inj _ _ hgy hx (h.symm.trans hpx))
          · exact .inr ⟨q, hq, h⟩
  obtain ⟨ks, k1, k2, k3, k4⟩ := key _ hinv hap
  refine ⟨ks, k1, fun x => ?_, by rw [k2]; simp [Maps.size, length_sorted]⟩
  constructor
  · intro hxk
    have hx' := k3 x hxk
    obtain ⟨p, hp, hpx⟩ := (k4 x hx').1 hxk
    rw [← (h2 x hx').1]
    exact List.any_eq_true.2 ⟨p, mem_sorted.2 hp, by rw [hpx]; exact WideAt.sameKey_self (K.law.key (K.of x hx'))⟩
  · intro hs
    have hx := h3 x hs
    rw [k4 x hx]
    rw [← (h2 x hx).1] at hs
    obtain ⟨p, hp, hpk⟩ := List.any_eq_true.1 hs
    exact ⟨p, mem_sorted.1 hp, WideAt.sameKey_eq hpk⟩
/-- len(m) -/
theorem MapP.len (h : MapP K E w b n f) {t : TypeId} (ht : P.underlying t = some (.map K.t E.e)) (ty : TypeId) : ∃ c, Cnt f c ∧ c ≤ n ∧ (Builtin.len_ #[t] ty #[.map (some b)]).run P w = .ok (.int .i64 c) w := by
  obtain ⟨D, h1, h2⟩ := h.keys
  exact ⟨_, h2, h1.size_le, h1.len ht ty⟩
end
/-! ### At the operation, for the walk -/
section
variable {P : Program} {α β : Type} {K : KeyT P α} {E : ElT P β} {w : World} {n b : Nat} {f : α → Option β} {ops : Array Oper} {rest : List Oper} {o : Oper} {a : Act} {Q : Exit → Act → World → Prop}
theorem wpList_get_map (hg : o.guard = none) (m x : Operand) (t : TypeId) (hop : o.op = Op.lookup t m x false) (ht : P.underlying t = some (.map K.t E.e)) (hm : a.eval m = .map (some b)) (hown : MapP K E w b n f) (k : α) (hx : a.eval x = K.val k) (hk : K.good k)
    (hK : wpList P ops Q rest (a.put o.dst (E.val ((f k).getD E.zero))) w) : wpList P ops Q (o :: rest) a w := by
  refine wpList_plain hg fun K' hK' => ?_
  unfold Oper.wp
  simp [execOp, hop, hm, hx, hown.get ht hk, Result.andThen]
  exact hK' _ _ hK
theorem wpList_getOk_map (hg : o.guard = none) (m x : Operand) (t : TypeId) (hop : o.op = Op.lookup t m x true) (ht : P.underlying t = some (.map K.t E.e)) (hm : a.eval m = .map (some b)) (hown : MapP K E w b n f) (k : α) (hx : a.eval x = K.val k) (hk : K.good k)
    (hK : wpList P ops Q rest (a.put o.dst (.tuple #[E.val ((f k).getD E.zero), .bool (f k).isSome])) w) : wpList P ops Q (o :: rest) a w := by
  refine wpList_plain hg fun K' hK' => ?_
  unfold Oper.wp
  simp [execOp, hop, hm, hx, hown.getOk ht hk, Result.andThen]
  exact hK' _ _ hK
theorem wpList_put_map [DecidableEq α] (hg : o.guard = none) (m x v : Operand) (t : TypeId) (hop : o.op = Op.mapUpdate t m x v) (ht : P.underlying t = some (.map K.t E.e)) (hm : a.eval m = .map (some b)) (hown : MapP K E w b n f) (hn : n < maxLen) (k : α) (hx : a.eval x = K.val k) (hk : K.good k) (y : β) (hv : a.eval v = E.val y) (hy : E.good y)
    (hK : ∀ w', MapP K E w' b (n + 1) (upd f k (some y)) → w.grownBy w' (some b) → wpList P ops Q rest (a.put o.dst undef) w') : wpList P ops Q (o :: rest) a w := by
  refine wpList_plain hg fun K' hK' => ?_
  obtain ⟨w', hrun, r1, r2⟩ := hown.put ht hn hk hy
  unfold Oper.wp
  simp [execOp, hop, hm, hx, hv, hrun, Result.andThen]
  exact hK' _ _ (hK w' r1 r2)
theorem wpList_del_map [DecidableEq α] (hg : o.guard = none) (m x : Operand) (t : TypeId) (hop : o.op = Op.call { callee := Callee.builtin Builtin.delete, args := #[m, x], argTypes := #[t, K.t] }) (ht : P.underlying t = some (.map K.t E.e)) (hm : a.eval m = .map (some b)) (hown : MapP K E w b n f) (k : α) (hx : a.eval x = K.val k) (hk : K.good k)
    (hK : ∀ w', MapP K E w' b n (upd f k none) → w.grownBy w' (some b) → wpList P ops Q rest (a.put o.dst (.tuple #[])) w') : wpList P ops Q (o :: rest) a w := by
  refine wpList_plain hg fun K' hK' => ?_
  obtain ⟨w', hrun, r1, r2⟩ := hown.del ht o.type hk
  unfold Oper.wp
  simp [execOp, hop, resolve, invoke, builtin, hm, hx, hrun, Result.andThen]
  exact hK' _ _ (hK w' r1 r2)
theorem wpList_len_map (hg : o.guard = none) (m : Operand) (t : TypeId) (hop : o.op = Op.call { callee := Callee.builtin Builtin.len, args := #[m], argTypes := #[t] }) (ht : P.underlying t = some (.map K.t E.e)) (hm : a.eval m = .map (some b)) (hown : MapP K E w b n f)
    (hK : ∀ c, Cnt f c → c ≤ n → wpList P ops Q rest (a.put o.dst (.int .i64 c)) w) : wpList P ops Q (o :: rest) a w := by
  refine wpList_plain hg fun K' hK' => ?_
  obtain ⟨c, h1, h2, hrun⟩ := hown.len ht o.type
  unfold Oper.wp
  simp [execOp, hop, resolve, invoke, builtin, hm, hrun, Result.andThen]
  exact hK' _ _ (hK c h1 h2)
end
/-! ### A map is gone through -/
section
variable {P : Program} {α β : Type} {K : KeyT P α} {E : ElT P β} {w w' : World} {b r n : Nat} {f : α → Option β} {left : α → Bool} {cnt : Nat}
/-- A range over block b's map, by the iterator in block r: which keys are still to come. -/
def RangeP (K : KeyT P α) (E : ElT P β) (w : World) (b r n : Nat) (f : α → Option β) (left : α → Bool) (cnt : Nat) : Prop :=
  ∃ D lf, w.ranges P K.t E.R b r n D lf cnt ∧ (∀ x, K.good x → Maps.has D (K.lit x) = (f x).isSome ∧ ∀ y, f x = some y → E.good y ∧ ∀ z, D.atKey (K.lit x) z = E.dat y) ∧ (∀ x, (f x).isSome = true → K.good x) ∧
    (∀ x, K.good x → lf (K.lit x) = left x) ∧ ∀ x, left x = true → K.good x ∧ (f x).isSome = true
theorem RangeP.map (h : RangeP K E w b r n f left cnt) : MapP K E w b n f := by obtain ⟨D, lf, h1, h2, h3, _⟩ := h; exact ⟨D, h1.owns, h2, h3⟩
theorem RangeP.left_eq (h : RangeP K E w b r n f left cnt) : w.rangeLeft b r = cnt := by obtain ⟨D, lf, h1, _⟩ := h; exact h1.left_eq
theorem RangeP.ne (h : RangeP K E w b r n f left cnt) : r ≠ b := by obtain ⟨D, lf, h1, _⟩ := h; exact h1.ne
theorem RangeP.lt (h : RangeP K E w b r n f left cnt) : r < w.heap.size := by obtain ⟨D, lf, h1, _⟩ := h; exact h1.lt
theorem RangeP.keep (h : RangeP K E w b r n f left cnt) (hb : w'.heap[b]? = w.heap[b]?) (hr : w'.heap[r]? = w.heap[r]?) : RangeP K E w' b r n f left cnt := by
  obtain ⟨D, lf, ⟨es, clock, since, seen, c0, e1, e2, e3, e4, e5, e6⟩, h2⟩ := h
  exact ⟨D, lf, ⟨es, clock, since, seen, c0, hb.trans e1, e2, e3, e4, hr.trans e5, e6⟩, h2⟩
theorem MapP.range (h : MapP K E w b n f) {t : TypeId} (ht : P.underlying t = some (.map K.t E.e)) :
    ∃ w' cnt, (Instr.range t (.map (some b))).run P w = .ok (.pointer (some ⟨w.heap.size, 0, none⟩)) w' ∧ RangeP K E w' b w.heap.size n f (fun x => (f x).isSome) cnt ∧ w.grownBy w' none ∧ w'.heap.size = w.heap.size + 1 := by
  obtain ⟨D, h1, h2, h3⟩ := h
  obtain ⟨w', hrun, hr, hg, hs⟩ := h1.range K.law ht
  exact ⟨w', _, hrun, ⟨D, _, hr, h2, h3, fun x hx => (h2 x hx).1, fun x hx => ⟨h3 x hx, hx⟩⟩, hg, hs⟩
theorem RangeP.next [DecidableEq α] (h : RangeP K E w b r n f left cnt) (ty : TypeId) :
    (cnt = 0 ∧ (∀ x, left x = false) ∧ (Instr.next (.pointer (some ⟨r, 0, none⟩)) false ty).run P w = .ok (.tuple #[.bool false]) w) ∨
    ∃ x y w' cnt', K.good x ∧ E.good y ∧ left x = true ∧ f x = some y ∧ (Instr.next (.pointer (some ⟨r, 0, none⟩)) false ty).run P w = .ok (.tuple #[.bool true, K.val x, E.val y]) w' ∧
      RangeP K E w' b r n f (fun z => left z && !decide (z = x)) cnt' ∧ cnt' < cnt ∧ w.grownBy w' (some r) ∧ w'.heap.size = w.heap.size ∧ (Instr.entry (.pointer (some ⟨r, 0, none⟩))).run P w' = .ok (.tuple #[K.val x, E.val y]) w' := by
  obtain ⟨D, lf, h1, h2, h3, h4, h5⟩ := h
  rcases h1.next K.law ty with ⟨c0, hl, hrun⟩ | ⟨key, v, kl, z, w', cnt', hkey, hlk, hv, hat, hrun, hrg, hlt, hgr, hsz, hen⟩
  · refine .inl ⟨c0, fun x => ?_, hrun⟩
    cases hx : left x
    · rfl
    · have := h4 x (h5 x hx).1
      rw [hl, hx] at this; cases this
  · obtain ⟨x, hx, rfl, rfl⟩ := K.inv _ _ hkey
    obtain ⟨y, hy, rfl, hd⟩ := E.inv _ _ hv
    rw [h4 x hx] at hlk
    have hfx : f x = some y := by
      have hs := (h5 x hlk).2
      cases hf : f x with
      | none => rw [hf] at hs; cases hs
      | some y' =>
        have h6 := ((h2 x hx).2 y' hf).2 (E.dat y)
        rw [hat, hd] at h6
        rw [E.inj _ _ h6]
    refine .inr ⟨x, y, w', cnt', hx, hy, hlk, hfx, hrun, ⟨D, _, hrg, h2, h3, fun u hu => ?_, fun u hu => ?_⟩, hlt, hgr, hsz, hen⟩
    · show (lf (K.lit u) && !(K.lit u).sameKey (K.lit x)) = _
      rw [h4 u hu]
      by_cases e : u = x
      · subst e; rw [WideAt.sameKey_self (K.law.key (K.of u hx))]; simp
      · rw [Maps.sameKey_ne fun h => e (K.inj _ _ hu hx h)]; simp [e]
    · simp only [Bool.and_eq_true] at hu
      exact h5 u hu.1
theorem RangeP.del [DecidableEq α] (h : RangeP K E w b r n f left cnt) {t : TypeId} (ht : P.underlying t = some (.map K.t E.e)) (ty : TypeId) {x : α} (hx : K.good x) :
    ∃ w' cnt', (Builtin.delete_ #[t, K.t] ty #[.map (some b), K.val x]).run P w = .ok (.tuple #[]) w' ∧ RangeP K E w' b r n (upd f x none) (fun z => left z && !decide (z = x)) cnt' ∧ cnt' ≤ cnt ∧ w.grownBy w' (some b) := by
  obtain ⟨D, lf, h1, h2, h3, h4, h5⟩ := h
  obtain ⟨w', cnt', hrun, hr, hle, hg⟩ := h1.drop K.law ht (K.of x hx) ty
  refine ⟨w', cnt', hrun, ⟨_, _, hr, fun z hz => ?_, fun z hz => ?_, fun z hz => ?_, fun z hz => ?_⟩, hle, hg.grown⟩
  · by_cases e : z = x
    · subst e
      refine ⟨by rw [Maps.has_del_same]; simp [upd], fun y' hy' => ?_⟩
      simp [upd] at hy'
    · have hne : K.lit z ≠ K.lit x := fun h => e (K.inj _ _ hz hx h)
      refine ⟨by rw [Maps.has_del_other hne, (h2 z hz).1]; simp [upd, e], fun y' hy' => ?_⟩
      simp [upd, e] at hy'
      exact ⟨((h2 z hz).2 y' hy').1, fun d => by rw [Maps.atKey_del_other hne]; exact ((h2 z hz).2 y' hy').2 d⟩
  · by_cases e : z = x
    · subst e; exact hx
    · simp [upd, e] at hz; exact h3 z hz
  · show (lf (K.lit z) && !(K.lit z).sameKey (K.lit x)) = _
    rw [h4 z hz]
    by_cases e : z = x
    · subst e; rw [WideAt.sameKey_self (K.law.key (K.of z hx))]; simp
    · rw [Maps.sameKey_ne fun h => e (K.inj _ _ hz hx h)]; simp [e]
  · simp only [Bool.and_eq_true, Bool.not_eq_true', decide_eq_false_iff_not] at hz
    exact ⟨(h5 z hz.1).1, by simp [upd, hz.2, (h5 z hz.1).2]⟩
end
/-! ### Keys and elements -/
section
variable {P : Program}
theorem wf_i64 {n : Int} (h : InI n) : (Lit.int .i64 n).wf = true := by
  unfold InI at h; simp [Lit.wf, IntKind.min, IntKind.max, IntKind.signed, IntKind.bits]; omega
theorem of_wf {n : Int} (h : (Lit.int .i64 n).wf = true) : InI n := by
  have : -9223372036854775808 ≤ n ∧ n ≤ 9223372036854775807 := by simpa [Lit.wf, IntKind.min, IntKind.max, IntKind.signed, IntKind.bits] using h
  exact this
/-- Keys that are numbers. -/
noncomputable def intK (k : TypeId) (hk : P.underlying k = some (.int .i64)) : KeyT P Int where
  t := k
  good := InI
  val := .int .i64
  lit := .int .i64
  law := int_keyed hk
  of x hx := keyOf_int_mk hk (wf_i64 hx)
  inv v l h := by obtain ⟨x, rfl, rfl, hw⟩ := Maps.keyOf_int_inv hk h; exact ⟨x, of_wf hw, rfl, rfl⟩
  inj x y _ _ h := by simpa using h
/-- Elements that are numbers. -/
noncomputable def intE (e : TypeId) (he : P.underlying e = some (.int .i64)) (hz : ∀ w, (zeroValue e).run P w = .ok (.int .i64 0) w) : ElT P Int where
  e := e
  R := plainElem P e
  good := InI
  val := .int .i64
  dat x := .lit (.int .i64 x)
  zero := 0
  of y hy := plainElem_int he (wf_i64 hy)
  inv v z h := by obtain ⟨a, rfl, rfl, hw⟩ := plainElem_int_inv he h; exact ⟨a, of_wf hw, rfl, rfl⟩
  inj x y h := by simpa using h
  good0 := by unfold InI; omega
  zero_run := hz
/-- Elements that are maps: none, or a block. -/
def blkR (v : Value) : Option (DataW Unit × List MemPlace) :=
  match v with
  | .map none => some (.nil, [])
  | .map (some b) => some (.lit (.int .i64 b), [])
  | _ => none
noncomputable def blkE (e : TypeId) (hz : ∀ w, (zeroValue e).run P w = .ok (.map none) w) : ElT P (Option Nat) where
  e := e
  R := blkR
  good _ := True
  val := .map
  dat x := match x with | none => .nil | some b => .lit (.int .i64 b)
  zero := none
  of y _ := by cases y <;> rfl
  inv v z h := by
    unfold blkR at h
    split at h
    · cases h; exact ⟨none, trivial, rfl, rfl⟩
    · cases h; exact ⟨some _, trivial, rfl, rfl⟩
    · cases h
  inj x y h := by
    cases x <;> cases y <;> simp at h ⊢
    omega
  good0 := trivial
  zero_run := hz
end
end Go.Proofs.Ytbppamjogdjfkaa
