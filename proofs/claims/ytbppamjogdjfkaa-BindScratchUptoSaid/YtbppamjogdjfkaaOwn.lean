/- Slices that a call makes: rows of its own that read as lists; append. -/
import Derived.Test.YtbppamjogdjfkaaTypes
import Derived.Maps.AppendAt
set_option linter.unusedSimpArgs false
set_option linter.unusedVariables false
namespace Go.Proofs.Ytbppamjogdjfkaa
open Go.RowKit

section
variable {α : Type} [Rep α]
/-- Cells, one element behind the other. -/
def RepL (w : World) (S : Nat → Prop) : List α → List Value → Prop
  | [], vs => vs = []
  | x :: l, vs => ∃ us ts, vs = us ++ ts ∧ Rep.is w S x us ∧ RepL w S l ts
variable {w w' : World} {S S' : Nat → Prop} {xs ys : List α} {vs us : List Value} {x : α}
theorem RepL.len (h : RepL w S xs vs) : vs.length = xs.length * Rep.size α := by
  induction xs generalizing vs with
  | nil => simp only [RepL] at h; subst h; simp
  | cons x l ih =>
    obtain ⟨us, ts, rfl, h1, h2⟩ := h
    rw [List.length_append, Rep.len h1, ih h2, List.length_cons, Nat.add_mul]; omega
theorem RepL.keep (h : RepL w S xs vs) (hs : w.heap.size ≤ w'.heap.size) (hk : ∀ b, S b → b < w.heap.size → w'.heap[b]? = w.heap[b]?) : RepL w' S xs vs := by
  induction xs generalizing vs with
  | nil => exact h
  | cons x l ih => obtain ⟨us, ts, rfl, h1, h2⟩ := h; exact ⟨us, ts, rfl, Rep.keep h1 hs hk, ih h2⟩
theorem RepL.more (h : RepL w S xs vs) (hS : ∀ b, b < w.heap.size → S b → S' b) : RepL w S' xs vs := by
  induction xs generalizing vs with
  | nil => exact h
  | cons x l ih => obtain ⟨us, ts, rfl, h1, h2⟩ := h; exact ⟨us, ts, rfl, Rep.more h1 hS, ih h2⟩
theorem RepL.one (h : RepL w S xs vs) : ∀ u ∈ vs, u.oneCell' = true := by
  induction xs generalizing vs with
  | nil => simp only [RepL] at h; subst h; simp
  | cons x l ih =>
    obtain ⟨us, ts, rfl, h1, h2⟩ := h
    intro u hu
    rcases List.mem_append.1 hu with h | h
    · exact Rep.one h1 u h
    · exact ih h2 u h
theorem RepL.append (h : RepL w S xs vs) (h' : RepL w S ys us) : RepL w S (xs ++ ys) (vs ++ us) := by
  induction xs generalizing vs with
  | nil => simp only [RepL] at h; subst h; simpa using h'
  | cons x l ih => obtain ⟨us, ts, rfl, h1, h2⟩ := h; exact ⟨us, ts ++ _, by simp, h1, ih h2⟩
theorem RepL.single (h : Rep.is w S x us) : RepL w S [x] us := ⟨us, [], by simp, h, rfl⟩
theorem RepL.at_ (h : RepL w S xs vs) {i : Nat} (hx : xs[i]? = some x) : ∃ us, Rep.is w S x us ∧ ∀ j u, us[j]? = some u → vs[i * Rep.size α + j]? = some u := by
  induction xs generalizing vs i with
  | nil => simp at hx
  | cons y l ih =>
    obtain ⟨us, ts, rfl, h1, h2⟩ := h
    cases i with
    | zero =>
      simp at hx; subst hx
      refine ⟨us, h1, fun j u hj => ?_⟩
      have hl : j < us.length := (List.getElem?_eq_some_iff.1 hj).1
      rw [Nat.zero_mul, Nat.zero_add, List.getElem?_append_left hl]; exact hj
    | succ i =>
      simp at hx
      obtain ⟨us', hu', hc⟩ := ih h2 hx
      refine ⟨us', hu', fun j u hj => ?_⟩
      have hl := Rep.len h1
      rw [List.getElem?_append_right (by rw [hl, Nat.add_mul]; omega), hl]
      rw [show (i + 1) * Rep.size α + j - Rep.size α = i * Rep.size α + j by rw [Nat.add_mul]; omega]
      exact hc j u hj
/-- The cells of a slice that reads as a list. -/
theorem Sl.cells_ {A : Option Addr} {n c : Nat} (h : Sl w S A n c xs) : ∃ vs, RepL w S xs vs ∧ (0 < n → ∃ b off, A = some ⟨b, off, none⟩ ∧ b < w.heap.size ∧ ∀ j u, vs[j]? = some u → w.cell? ⟨b, off + j, none⟩ = some u) := by
  obtain ⟨h1, _, _, _, h5⟩ := h
  rcases Nat.eq_zero_or_pos n with h0 | h0
  · subst h0
    obtain rfl : xs = [] := List.eq_nil_of_length_eq_zero h1
    exact ⟨[], rfl, fun h => absurd h (by omega)⟩
  · obtain ⟨b, off, hA, hb, hS, hx⟩ := h5 h0
    have key : ∀ (l : List α) (k : Nat), (∀ i x, l[i]? = some x → xs[k + i]? = some x) → ∃ vs, RepL w S l vs ∧ ∀ j u, vs[j]? = some u → w.cell? ⟨b, off + (k * Rep.size α + j), none⟩ = some u := by
      intro l
      induction l with
      | nil => intro k _; exact ⟨[], rfl, fun j u hj => by simp at hj⟩
      | cons y l ih =>
        intro k hk
        obtain ⟨us, hus, hc⟩ := hx k y (by simpa using hk 0 y rfl)
        obtain ⟨ts, hts, hc'⟩ := ih (k + 1) (fun i x hi => by have := hk (i + 1) x (by simpa using hi); rwa [show k + 1 + i = k + (i + 1) by omega])
        refine ⟨us ++ ts, ⟨us, ts, rfl, hus, hts⟩, fun j u hj => ?_⟩
        by_cases hl : j < us.length
        · rw [List.getElem?_append_left hl] at hj; exact hc j u hj
        · rw [List.getElem?_append_right (by omega)] at hj
          have := hc' _ u hj
          have hlen := Rep.len hus
          rw [show off + ((k + 1) * Rep.size α + (j - us.length)) = off + (k * Rep.size α + j) by rw [Nat.add_mul]; omega] at this
          exact this
    obtain ⟨vs, hvs, hc⟩ := key xs 0 (fun i x hi => by simpa using hi)
    exact ⟨vs, hvs, fun _ => ⟨b, off, hA, hb, fun j u hj => by simpa using hc j u hj⟩⟩

/-- The slice value v is of the call's own, from block base on, and reads as xs; what its elements name is of S, apart from the row itself. -/
def OwnL (w : World) (base : Nat) (T : TypeId) (S : Nat → Prop) (v : Value) (xs : List α) : Prop :=
  ∃ vals, w.ownsRow base T (Rep.size α) v xs.length vals ∧ RepL w S xs vals ∧ ∀ g, v.ownBlock = some g → ¬ S g
variable {base : Nat} {T : TypeId} {v : Value}
theorem OwnL.nil_ (w : World) (base : Nat) (T : TypeId) (S : Nat → Prop) : OwnL w base T S (.slice none 0 0) ([] : List α) :=
  ⟨[], World.ownsRow_nil w base T _, rfl, fun g h => by simp [Value.ownBlock] at h⟩
theorem OwnL.form (h : OwnL w base T S v xs) : ∃ A c, v = .slice A xs.length c := by
  obtain ⟨vals, ⟨_, h⟩, _⟩ := h
  rcases h with ⟨rfl, h0⟩ | ⟨g, cap, cur, rfl, _⟩
  · exact ⟨none, 0, by rw [h0]⟩
  · exact ⟨_, _, rfl⟩
theorem OwnL.below_ (h : OwnL w base T S v xs) : ∀ g, v.ownBlock = some g → base ≤ g ∧ g < w.heap.size := by
  obtain ⟨vals, h, _⟩ := h
  exact h.lt
theorem OwnL.sl {A : Option Addr} {n c : Nat} (h : OwnL w base T S (.slice A n c) xs) (hS' : ∀ b, b < w.heap.size → (S b ∨ base ≤ b) → S' b) : Sl w S' A n c xs := by
  obtain ⟨vals, ⟨h1, h⟩, hr, _⟩ := h
  rcases h with ⟨e, h0⟩ | ⟨g, cap, cur, e, hg, hh, hnc, hcm, hsz, htake⟩
  · injection e with e1 e2 e3
    subst e1 e2 e3
    obtain rfl : xs = [] := List.eq_nil_of_length_eq_zero h0
    exact Sl.nil
  · injection e with e1 e2 e3
    subst e1 e2 e3
    have hgl : g < w.heap.size := (Array.getElem?_eq_some_iff.1 hh).1
    refine ⟨rfl, hnc, hcm, fun h => by simp at h, fun _ => ⟨g, 0, rfl, hgl, hS' g hgl (.inr hg), fun i x hi => ?_⟩⟩
    obtain ⟨us, hus, hc⟩ := hr.at_ hi
    refine ⟨us, Rep.more hus (fun b hb h => hS' b hb (.inl h)), fun j u hj => ?_⟩
    rw [cell_of_row w g _ cur T (0, 0) hh]
    have := hc j u hj
    rw [← htake, List.getElem?_take] at this
    split at this
    · simpa using this
    · cases this
theorem OwnL.keep (h : OwnL w base T S v xs) (hs : w.heap.size ≤ w'.heap.size) (hS : ∀ b, S b → b < w.heap.size → w'.heap[b]? = w.heap[b]?) (hv : ∀ g, v.ownBlock = some g → w'.heap[g]? = w.heap[g]?) : OwnL w' base T S v xs := by
  obtain ⟨vals, ⟨h1, h⟩, hr, ha⟩ := h
  refine ⟨vals, ⟨h1, ?_⟩, hr.keep hs hS, ha⟩
  rcases h with hn | ⟨g, cap, cur, rfl, hb, hg, rest⟩
  · exact .inl hn
  · exact .inr ⟨g, cap, cur, rfl, hb, by rw [hv g rfl]; exact hg, rest⟩
theorem OwnL.ext (h : OwnL w base T S v xs) (u : Ext) : OwnL (w.ext u) base T S v xs :=
  h.keep (by rw [size_ext]; omega) (fun b _ hb => ext_block w u b hb) (fun g hg => ext_block w u g (h.below_ g hg).2)
theorem OwnL.alloc (h : OwnL w base T S v xs) (o : Obj) : OwnL (w.alloc o) base T S v xs :=
  h.keep (by simp) (fun b _ hb => Below.heap_alloc w o b hb) (fun g hg => Below.heap_alloc w o g (h.below_ g hg).2)
theorem OwnL.drew (h : OwnL w base T S v xs) : OwnL w.drew base T S v xs := h.keep (Nat.le_refl _) (fun _ _ _ => rfl) (fun _ _ => rfl)
theorem OwnL.setCell (h : OwnL w base T S v xs) {p : Addr} (hS : ¬ S p.block) (hv : v.ownBlock ≠ some p.block) (u : Value) : OwnL (w.setCell p u) base T S v xs :=
  h.keep (by simp) (fun b hb _ => Below.heap_setCell w p u b (fun e => hS (e ▸ hb))) (fun g hg => Below.heap_setCell w p u g (fun e => hv (e ▸ hg)))
theorem OwnL.moreS (h : OwnL w base T S v xs) (hS : ∀ b, b < w.heap.size → S b → S' b) (ha : ∀ g, v.ownBlock = some g → ¬ S' g) : OwnL w base T S' v xs := by
  obtain ⟨vals, h1, hr, _⟩ := h
  exact ⟨vals, h1, hr.more hS, ha⟩
end

/-- It returns a slice of its own, reading as xs. -/
def RetO {α : Type} [Rep α] (T : TypeId) (xs : List α) (w : World) (e : Ending) (w' : World) : Prop :=
  ∃ A n c S, e = .returned (.slice A n c) ∧ OwnL w' w.heap.size T S (.slice A n c) xs ∧ (∀ b, S b → w.heap.size ≤ b ∧ b < w'.heap.size) ∧ ∃ u : Ext, w' = w.ext u
/-- It returns a slice in new memory, reading as xs. -/
def RetSl {α : Type} [Rep α] (xs : List α) (w : World) (e : Ending) (w' : World) : Prop :=
  ∃ A n c, e = .returned (.slice A n c) ∧ Sl w' (fun b => w.heap.size ≤ b) A n c xs ∧ ∃ u : Ext, w' = w.ext u
/-- It returns a struct that reads as x, in new memory. -/
def RetV {α : Type} [Rep α] (x : α) (w : World) (e : Ending) (w' : World) : Prop :=
  ∃ vs, e = .returned (.agg vs.toArray) ∧ Rep.is w' (fun b => w.heap.size ≤ b) x vs ∧ ∃ u : Ext, w' = w.ext u
theorem RetO.retSl {α : Type} [Rep α] {T : TypeId} {xs : List α} {w w' : World} {e : Ending} (h : RetO T xs w e w') : RetSl xs w e w' := by
  obtain ⟨A, n, c, S, rfl, h1, h2, h3⟩ := h
  exact ⟨A, n, c, rfl, h1.sl (fun b _ hb => by rcases hb with hb | hb; exact (h2 b hb).1; exact hb), h3⟩
theorem RetO.mk_ {α : Type} [Rep α] {T : TypeId} {xs : List α} {w w' : World} {v : Value} {S : Nat → Prop} (h : OwnL w' w.heap.size T S v xs) (hS : ∀ b, S b → w.heap.size ≤ b ∧ b < w'.heap.size) (hb : Below w.heap.size w w') : RetO T xs w (.returned v) w' := by
  obtain ⟨A, c, rfl⟩ := h.form
  exact ⟨A, _, c, S, rfl, h, hS, Below.to_ext hb⟩
/-- The world behind an append. -/
theorem below_push {base : Nat} {w W w' : World} {us : List Value} {T' : TypeId} {v : Value} {α : Type} [Rep α] {T : TypeId} {S : Nat → Prop} {xs : List α} (hb : Below base w W) (hown : OwnL W base T S v xs)
    (hbase : base ≤ W.heap.size) (hg : (W.alloc (.cells us.toArray T')).grownBy w' v.ownBlock) : Below base w w' :=
  (hb.alloc hbase _).grown hg (by simp; omega) fun k hk => (hown.below_ k hk).1

/-- A slice literal. -/
theorem Sl.lit {α : Type} [Rep α] {w : World} {S S' : Nat → Prop} {T : TypeId} {xs : List α} {us : List Value} {n g : Nat} (hg : g = w.heap.size) (hr : RepL w S xs us) (hn : xs.length = n) (hm : n ≤ 9223372036854775807)
    (hS : ∀ b, S b → S' b) (hg' : S' g) : Sl (w.alloc (.cells us.toArray T)) S' (some ⟨g, 0, none⟩) n n xs := by
  subst hg
  refine ⟨hn, Nat.le_refl _, by unfold maxLen; omega, fun h => by simp at h, fun _ => ⟨w.heap.size, 0, rfl, by simp, hg', fun i x hi => ?_⟩⟩
  obtain ⟨vs, hvs, hc⟩ := hr.at_ hi
  refine ⟨vs, Rep.keep (Rep.more hvs fun b _ h => hS b h) (by simp) fun b _ hb => Below.heap_alloc w _ b hb, fun j u hj => ?_⟩
  rw [World.cell?_alloc_new]
  simpa using hc j u hj
theorem RepL.ints {w : World} {S : Nat → Prop} (xs : List Int) (h : ∀ x ∈ xs, InI x) : RepL w S xs (xs.map (Value.int .i64)) := by
  induction xs with
  | nil => rfl
  | cons x l ih => exact ⟨[.int .i64 x], _, rfl, ⟨rfl, h x (by simp)⟩, ih fun y hy => h y (by simp [hy])⟩
theorem RepL.ints_more {w w' : World} {S S' : Nat → Prop} {xs : List Int} {us : List Value} (h : RepL w S xs us) : RepL w' S' xs us := by
  induction xs generalizing us with
  | nil => exact h
  | cons x l ih => obtain ⟨us, ts, rfl, h1, h2⟩ := h; exact ⟨us, ts, rfl, h1, ih h2⟩

theorem Sl.from_ {α : Type} [Rep α] {w : World} {S : Nat → Prop} {n c : Nat} {xs : List α} {ad : Addr} (h : Sl w S (some ad) n c xs) : ∃ vs, RepL w S xs vs ∧ ∀ j u, vs[j]? = some u → w.cell? (ad.add j) = some u := by
  obtain ⟨vs, hr, hc⟩ := h.cells_
  refine ⟨vs, hr, fun j u hj => ?_⟩
  rcases Nat.eq_zero_or_pos n with h0 | h0
  · have : vs = [] := List.eq_nil_of_length_eq_zero (by rw [hr.len, h.len, h0, Nat.zero_mul])
    subst this; simp at hj
  · obtain ⟨b, off, e, hb, hcc⟩ := hc h0
    injection e with e; subst e
    have hadd : (⟨b, off, none⟩ : Addr).add j = ⟨b, off + j, none⟩ := by unfold Addr.add; split <;> simp_all
    rw [hadd]; exact hcc j u hj

theorem OwnL.ints {w : World} {base : Nat} {T : TypeId} {S : Nat → Prop} {v : Value} {xs : List Int} (h : OwnL w base T S v xs) : OwnL w base T (fun _ => False) v xs := by
  obtain ⟨vals, h1, h2, _⟩ := h
  exact ⟨vals, h1, RepL.ints_more h2, fun _ _ h => h⟩
theorem below_grown {w w' : World} (h : w.grownBy w' none) {B : Nat} (hB : B ≤ w.heap.size) : Below B w w' := (Below.refl _ _).grown h hB (fun _ e => by cases e)

/-! ### append -/
section
variable {P : Program} {α : Type} [Rep α] {ops : Array Oper} {rest : List Oper} {o : Oper} {a : Act} {Q : Exit → Act → World → Prop}
/-- append of cells that lie somewhere. -/
theorem wpList_push_at (w : World) (hgd : o.guard = none) (s x : Operand) (t : TypeId)
    (ho : o.op = .call { callee := .builtin .append, args := #[s, x], argTypes := #[t, t] })
    (base : Nat) (T : TypeId) (i : TypeInfo) (z : Value) (bytes : Nat) (ht : P.underlying t = some (.slice T)) (hi : P.info? T = some i) (hz : i.zero = some z)
    (hsize : i.size = Rep.size α) (hby : i.bytes = bytes) (hzs : z.cells.size = Rep.size α) (hsz : 0 < Rep.size α)
    (S S' : Nat → Prop) (v : Value) (xs ys : List α) (hs : a.eval s = v) (hown : OwnL w base T S v xs)
    (ad : Addr) (m c : Nat) (us : List Value) (hx : a.eval x = .slice (some ad) m c) (hm : ys.length = m) (hr : RepL w S' ys us) (hnews : ∀ j u, us[j]? = some u → w.cell? (ad.add j) = some u)
    (hSS : ∀ b, b < w.heap.size → S b → S' b) (hap : ∀ g, v.ownBlock = some g → ¬ S' g) (hnew : ∀ b, S' b → b < w.heap.size)
    (h63 : xs.length + m ≤ maxLen) (hbytes : (xs.length + m) * bytes ≤ 140737488355328) (hbase : base ≤ w.heap.size)
    (h : ∀ v' w', OwnL w' base T S' v' (xs ++ ys) → w.grownBy w' v.ownBlock → (v'.ownBlock = v.ownBlock ∨ v'.ownBlock = some w.heap.size) → wpList P ops Q rest (a.put o.dst v') w') : wpList P ops Q (o :: rest) a w := by
  obtain ⟨vals, hrow, hrep, hapart⟩ := hown
  obtain ⟨v', w', hrun, h2, h3, _, h5⟩ := run_append_own_at (P := P) w base t o.type T i z (Rep.size α) bytes ht hi hz hsize hby hzs hsz v xs.length vals hrow ad m c us (by rw [RepL.len hr, hm]) hnews hr.one h63 hbytes hbase
  refine wpList_plain hgd fun _ hK => ?_
  unfold Oper.wp execOp
  simp only [ho, resolve, invoke, builtin, Sem.run_bind, Sem.run_pure, Result.andThen_ok, List.map_toArray, List.map_cons, List.map_nil, hs, hx, hrun]
  refine hK _ _ (h v' w' ⟨vals ++ us, by rw [List.length_append, hm]; exact h2, ?_, ?_⟩ h3 h5)
  · refine RepL.keep (w := w) (RepL.append (hrep.more hSS) hr) h3.size fun b hb hlt => h3.block b hlt fun e => hap b e.symm hb
  · intro g hg hS
    rcases h5 with e | e
    · rw [e] at hg; exact hap g hg hS
    · rw [e] at hg; injection hg with hg; subst hg; exact absurd (hnew _ hS) (by omega)
/-- append of one element that has just been laid. -/
theorem wpList_push (W : World) (us : List Value) (T' : TypeId) (hgd : o.guard = none) (s x : Operand) (t : TypeId)
    (ho : o.op = .call { callee := .builtin .append, args := #[s, x], argTypes := #[t, t] })
    (base : Nat) (T : TypeId) (i : TypeInfo) (z : Value) (bytes : Nat) (ht : P.underlying t = some (.slice T)) (hi : P.info? T = some i) (hz : i.zero = some z)
    (hsize : i.size = Rep.size α) (hby : i.bytes = bytes) (hzs : z.cells.size = Rep.size α) (hsz : 0 < Rep.size α)
    (S S' : Nat → Prop) (v : Value) (xs : List α) (y : α) (hs : a.eval s = v) (hown : OwnL W base T S v xs)
    (g : Nat) (hx : a.eval x = .slice (some ⟨g, 0, none⟩) 1 1) (hgW : g = W.heap.size) (hr : Rep.is W S' y us)
    (hSS : ∀ b, S b → S' b) (hap : ∀ g, v.ownBlock = some g → ¬ S' g) (hnew : ∀ b, S' b → b < W.heap.size)
    (hlen : (xs.length + 1) * bytes ≤ 140737488355328) (hlen' : xs.length + 1 ≤ 9223372036854775807) (hbase : base ≤ W.heap.size)
    (h : ∀ v' w', OwnL w' base T S' v' (xs ++ [y]) → (W.alloc (.cells us.toArray T')).grownBy w' v.ownBlock → (v'.ownBlock = v.ownBlock ∨ v'.ownBlock = some (W.heap.size + 1)) → wpList P ops Q rest (a.put o.dst v') w') :
    wpList P ops Q (o :: rest) a (W.alloc (.cells us.toArray T')) := by
  subst hgW
  have hlaid : ∀ j u, us[j]? = some u → (W.alloc (.cells us.toArray T')).cell? ((⟨W.heap.size, 0, none⟩ : Addr).add j) = some u := by
    intro j u hj
    have hadd : (⟨W.heap.size, 0, none⟩ : Addr).add j = ⟨W.heap.size, j, none⟩ := by unfold Addr.add; split <;> simp_all
    rw [hadd, World.cell?_alloc_new]; simpa using hj
  refine wpList_push_at (α := α) _ hgd s x t ho base T i z bytes ht hi hz hsize hby hzs hsz S S' v xs [y] hs (hown.alloc _) ⟨W.heap.size, 0, none⟩ 1 1 us hx rfl
    (RepL.single (Rep.keep hr (by simp) fun b _ hb => Below.heap_alloc W _ b hb)) hlaid (fun b _ hS => hSS b hS) hap (fun b hb => by have := hnew b hb; simp; omega)
    (by unfold maxLen; omega) hlen (by simp; omega) (fun v' w' h1 h2 h3 => h v' w' h1 h2 (by simpa using h3))
theorem run_append_nil_src (w : World) (base : Nat) (t ty e : TypeId) (i : TypeInfo) (size : Nat) (ht : P.underlying t = some (.slice e)) (hi : P.info? e = some i)
    (v : Value) (n : Nat) (vals : List Value) (hown : w.ownsRow base e size v n vals) (c : Nat) : (Builtin.append_ #[t, t] ty #[v, .slice none 0 c]).run P w = .ok v w := by
  rcases hown.2 with ⟨rfl, rfl⟩ | ⟨g, cap, cur, rfl, _, _, hnc, _⟩
  · simp [Builtin.append_, run_underlying ht, sizeOf, typeInfo, hi, Builtin.lenOf, Builtin.firstCells]
  · simp [Builtin.append_, run_underlying ht, sizeOf, typeInfo, hi, Builtin.lenOf, Builtin.firstCells, hnc, storeCells]
/-- append of a whole list, nil let in. -/
theorem wpList_push_sl (w : World) (hgd : o.guard = none) (s x : Operand) (t : TypeId)
    (ho : o.op = .call { callee := .builtin .append, args := #[s, x], argTypes := #[t, t] })
    (base : Nat) (T : TypeId) (i : TypeInfo) (z : Value) (bytes : Nat) (ht : P.underlying t = some (.slice T)) (hi : P.info? T = some i) (hz : i.zero = some z)
    (hsize : i.size = Rep.size α) (hby : i.bytes = bytes) (hzs : z.cells.size = Rep.size α) (hsz : 0 < Rep.size α)
    (S S' S2 : Nat → Prop) (v : Value) (xs ys : List α) (hs : a.eval s = v) (hown : OwnL w base T S v xs)
    (A : Option Addr) (m c : Nat) (hx : a.eval x = .slice A m c) (hr : Sl w S2 A m c ys)
    (hSS : ∀ b, S b → S' b) (hSS2 : ∀ b, b < w.heap.size → S2 b → S' b) (hap : ∀ g, v.ownBlock = some g → ¬ S' g) (hnew : ∀ b, S' b → b < w.heap.size)
    (h63 : xs.length + m ≤ 9223372036854775807) (hbytes : (xs.length + m) * bytes ≤ 140737488355328) (hbase : base ≤ w.heap.size)
    (h : ∀ v' w', OwnL w' base T S' v' (xs ++ ys) → w.grownBy w' v.ownBlock → (v'.ownBlock = v.ownBlock ∨ v'.ownBlock = some w.heap.size) → wpList P ops Q rest (a.put o.dst v') w') : wpList P ops Q (o :: rest) a w := by
  cases A with
  | none =>
    have h0' : c = 0 := hr.2.2.2.1 rfl
    have h0 : m = 0 := by have := hr.2.1; omega
    subst h0 h0'
    obtain rfl : ys = [] := List.eq_nil_of_length_eq_zero hr.len
    obtain ⟨vals, hrow, hrep, hapart⟩ := hown
    have hrun := run_append_nil_src (P := P) w base t o.type T i (Rep.size α) ht hi v xs.length vals hrow 0
    refine wpList_plain hgd fun _ hK => ?_
    unfold Oper.wp execOp
    simp only [ho, resolve, invoke, builtin, Sem.run_bind, Sem.run_pure, Result.andThen_ok, List.map_toArray, List.map_cons, List.map_nil, hs, hx, hrun]
    exact hK _ _ (h v w (by rw [List.append_nil]; exact ⟨vals, hrow, hrep.more fun b _ hb => hSS b hb, hap⟩) (World.grownBy.refl w _) (.inl rfl))
  | some ad =>
    obtain ⟨us, hr', hc⟩ := (hr.more hSS2).from_
    exact wpList_push_at (α := α) w hgd s x t ho base T i z bytes ht hi hz hsize hby hzs hsz S S' v xs ys hs hown ad m c us hx hr.len hr' hc (fun b _ hb => hSS b hb) hap hnew (by unfold maxLen; omega) hbytes hbase h
theorem run_push_sl (w : World) (t ty : TypeId)
    (base : Nat) (T : TypeId) (i : TypeInfo) (z : Value) (bytes : Nat) (ht : P.underlying t = some (.slice T)) (hi : P.info? T = some i) (hz : i.zero = some z)
    (hsize : i.size = Rep.size α) (hby : i.bytes = bytes) (hzs : z.cells.size = Rep.size α) (hsz : 0 < Rep.size α)
    (S S' S2 : Nat → Prop) (v : Value) (xs ys : List α) (hown : OwnL w base T S v xs)
    (A : Option Addr) (m c : Nat) (hr : Sl w S2 A m c ys)
    (hSS : ∀ b, S b → S' b) (hSS2 : ∀ b, b < w.heap.size → S2 b → S' b) (hap : ∀ g, v.ownBlock = some g → ¬ S' g) (hnew : ∀ b, S' b → b < w.heap.size)
    (h63 : xs.length + m ≤ 9223372036854775807) (hbytes : (xs.length + m) * bytes ≤ 140737488355328) (hbase : base ≤ w.heap.size) :
    ∃ v' w', (Builtin.append_ #[t, t] ty #[v, .slice A m c]).run P w = .ok v' w' ∧ OwnL w' base T S' v' (xs ++ ys) ∧ w.grownBy w' v.ownBlock ∧ (v'.ownBlock = v.ownBlock ∨ v'.ownBlock = some w.heap.size) := by
  cases A with
  | none =>
    have h0' : c = 0 := hr.2.2.2.1 rfl
    have h0 : m = 0 := by have := hr.2.1; omega
    subst h0 h0'
    obtain rfl : ys = [] := List.eq_nil_of_length_eq_zero hr.len
    obtain ⟨vals, hrow, hrep, hapart⟩ := hown
    exact ⟨v, w, run_append_nil_src (P := P) w base t ty T i (Rep.size α) ht hi v xs.length vals hrow 0, by rw [List.append_nil]; exact ⟨vals, hrow, hrep.more fun b _ hb => hSS b hb, hap⟩, World.grownBy.refl w _, .inl rfl⟩
  | some ad =>
    obtain ⟨us, hr', hc⟩ := (hr.more hSS2).from_
    obtain ⟨vals, hrow, hrep, hapart⟩ := hown
    obtain ⟨v', w', hrun, h2, h3, _, h5⟩ := run_append_own_at (P := P) w base t ty T i z (Rep.size α) bytes ht hi hz hsize hby hzs hsz v xs.length vals hrow ad m c us (by rw [RepL.len hr', hr.len]) hc hr'.one (by unfold maxLen; omega) hbytes hbase
    refine ⟨v', w', hrun, ⟨vals ++ us, by rw [List.length_append, hr.len]; exact h2, ?_, ?_⟩, h3, h5⟩
    · refine RepL.keep (w := w) (RepL.append (hrep.more fun b _ hb => hSS b hb) hr') h3.size fun b hb hlt => h3.block b hlt fun e => hap b e.symm hb
    · intro g hg hS
      rcases h5 with e | e
      · rw [e] at hg; exact hap g hg hS
      · rw [e] at hg; injection hg with hg; subst hg; exact absurd (hnew _ hS) (by omega)
theorem step_push_sl {K : Act → World → Prop} {E : Prop} (w : World) (hgd : o.guard = none) (s x : Operand) (t : TypeId)
    (ho : o.op = .call { callee := .builtin .append, args := #[s, x], argTypes := #[t, t] })
    (base : Nat) (T : TypeId) (i : TypeInfo) (z : Value) (bytes : Nat) (ht : P.underlying t = some (.slice T)) (hi : P.info? T = some i) (hz : i.zero = some z)
    (hsize : i.size = Rep.size α) (hby : i.bytes = bytes) (hzs : z.cells.size = Rep.size α) (hsz : 0 < Rep.size α)
    (S S' S2 : Nat → Prop) (v : Value) (xs ys : List α) (hs : a.eval s = v) (hown : OwnL w base T S v xs)
    (A : Option Addr) (m c : Nat) (hx : a.eval x = .slice A m c) (hr : Sl w S2 A m c ys)
    (hSS : ∀ b, S b → S' b) (hSS2 : ∀ b, b < w.heap.size → S2 b → S' b) (hap : ∀ g, v.ownBlock = some g → ¬ S' g) (hnew : ∀ b, S' b → b < w.heap.size)
    (h63 : xs.length + m ≤ 9223372036854775807) (hbytes : (xs.length + m) * bytes ≤ 140737488355328) (hbase : base ≤ w.heap.size)
    (h : ∀ v' w', OwnL w' base T S' v' (xs ++ ys) → w.grownBy w' v.ownBlock → (v'.ownBlock = v.ownBlock ∨ v'.ownBlock = some w.heap.size) → K (a.put o.dst v') w') :
    if Region.wanted o (yielded ops a.tmps) = true then Oper.wp P o a w K Q else E := by
  have hw : Region.wanted o (yielded ops a.tmps) = true := by simp [Region.wanted, hgd]
  rw [if_pos hw]
  obtain ⟨v', w', hrun, h1, h2, h3⟩ := run_push_sl (P := P) w t o.type base T i z bytes ht hi hz hsize hby hzs hsz S S' S2 v xs ys hown A m c hr hSS hSS2 hap hnew h63 hbytes hbase
  unfold Oper.wp execOp
  simp only [ho, resolve, invoke, builtin, Sem.run_bind, Sem.run_pure, Result.andThen_ok, List.map_toArray, List.map_cons, List.map_nil, hs, hx, hrun]
  exact h v' w' h1 h2 h3
/-- A literal of one number is the call's own. -/
theorem OwnL.lit_int (w : World) (base : Nat) (T : TypeId) (x : Int) (hx : InI x) (hb : base ≤ w.heap.size) (g : Nat) (hg : g = w.heap.size) : OwnL (w.alloc (.cells #[.int .i64 x] T)) base T (fun _ => False) (.slice (some ⟨g, 0, none⟩) 1 1) [x] := by
  subst hg
  refine ⟨[.int .i64 x], ⟨rfl, .inr ⟨w.heap.size, 1, _, rfl, hb, heap_alloc_new w _, Nat.le_refl _, by decide, rfl, rfl⟩⟩, RepL.single ⟨rfl, hx⟩, fun _ _ h => h⟩
end
end Go.Proofs.Ytbppamjogdjfkaa
