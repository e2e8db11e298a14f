/- What a slice, a struct in memory reads as: plain predicates on worlds, and how they stay; worlds with blocks more. -/
import Derived.Test.YtbppamjogdjfkaaRows
import Derived.WalkKit
import Derived.WalkSpells
import Derived.WalkLawsBesides
import Derived.Deep.QuietTactic
import Derived.BigQuiet
set_option linter.unusedSimpArgs false
set_option linter.unusedVariables false
namespace Go.Proofs.Ytbppamjogdjfkaa
open Go.RowKit

/-- A fact that the walk does not look into. -/
structure Hd (p : Prop) : Prop where
  out : p
theorem hide {p : Prop} (h : p) : Hd p := ⟨h⟩
/-- It returns, the world as it was; with blocks more. -/
def Ret (v : Value) (w : World) (e : Ending) (w' : World) : Prop := e = .returned v ∧ w = w'
theorem ret_eq {a b : Value} (h : a = b) : Ending.returned a = Ending.returned b := by rw [h]
theorem ret_bool {a b : Bool} (h : a = b) : Ending.returned (.bool a) = Ending.returned (.bool b) := by rw [h]
theorem ret_int {k : IntKind} {a b : Int} (h : a = b) : Ending.returned (.int k a) = Ending.returned (.int k b) := by rw [h]

/-! ### A world with blocks more, and draws -/
structure Ext where
  blocks : Array Obj
  drawn : Nat
instance : Inhabited Ext := ⟨⟨#[], 0⟩⟩

def _root_.Go.World.ext (w : World) (u : Ext) : World := { w with heap := w.heap ++ u.blocks, drawn := u.drawn }

section
variable (w : World) (u v : Ext) (a : Addr) (o : Obj)
theorem ext_block (k : Nat) (h : k < w.heap.size) : (w.ext u).heap[k]? = w.heap[k]? := by
  show (w.heap ++ u.blocks)[k]? = _
  rw [Array.getElem?_append_left h]
theorem cell?_ext (h : a.block < w.heap.size) : (w.ext u).cell? a = w.cell? a := World.cell?_of_block (ext_block w u _ h)
theorem frozen?_ext (h : a.block < w.heap.size) : (w.ext u).frozen? a = w.frozen? a := World.frozen?_of_block (ext_block w u _ h)
theorem setCell_ext (x : Value) (h : a.block < w.heap.size) : (w.ext u).setCell a x = (w.setCell a x).ext u := by
  have key : ∀ f : Obj → Obj, (w.heap ++ u.blocks).modify a.block f = w.heap.modify a.block f ++ u.blocks := by
    intro f
    apply Array.ext_getElem?
    intro i
    rw [Array.getElem?_modify]
    by_cases hi : i < w.heap.size
    · rw [Array.getElem?_append_left hi, Array.getElem?_append_left (by simpa using hi), Array.getElem?_modify]
    · rw [Array.getElem?_append_right (by omega), Array.getElem?_append_right (by simp; omega), if_neg (by omega)]
      simp
  unfold World.setCell World.ext
  simp only [key]
theorem ext_high (w' : World) (hs : w'.heap.size = w.heap.size) (k : Nat) (h : w.heap.size ≤ k) : (w'.ext u).heap[k]? = (w.ext u).heap[k]? := by
  show (w'.heap ++ u.blocks)[k]? = (w.heap ++ u.blocks)[k]?
  rw [Array.getElem?_append_right (by omega), Array.getElem?_append_right h, hs]
theorem size_ext : (w.ext u).heap.size = w.heap.size + u.blocks.size := by
  show (w.heap ++ u.blocks).size = _
  rw [Array.size_append]
theorem ext_ext : ∃ x : Ext, (w.ext u).ext v = w.ext x := ⟨⟨u.blocks ++ v.blocks, v.drawn⟩, by simp [World.ext, Array.append_assoc]⟩
theorem ext_refl : ∃ x : Ext, w = w.ext x := ⟨⟨#[], w.drawn⟩, by simp [World.ext]⟩
theorem ext_drew : ∃ x : Ext, w.drew = w.ext x := ⟨⟨#[], w.drawn + 1⟩, by show World.mk _ _ _ _ _ = World.mk _ _ _ _ _; congr 1⟩
theorem ext_alloc : ∃ x : Ext, w.alloc o = w.ext x := ⟨⟨#[o], w.drawn⟩, by show World.mk _ _ _ _ _ = World.mk _ _ _ _ _; congr 1⟩
end
theorem le_size {w : World} {b : Nat} (h : b < w.heap.size) : b ≤ w.heap.size := Nat.le_of_lt h
theorem lt_more1 {w : World} {b : Nat} (h : b < w.heap.size) (k : Nat) : b < w.heap.size + k := by omega
theorem lt_more2 {w : World} {b : Nat} (h : b < w.heap.size) (k l : Nat) : b < w.heap.size + k + l := by omega
theorem lt_more3 {w : World} {b : Nat} (h : b < w.heap.size) (k l m : Nat) : b < w.heap.size + k + l + m := by omega
theorem lt_more4 {w : World} {b : Nat} (h : b < w.heap.size) (k l m n : Nat) : b < w.heap.size + k + l + m + n := by omega
theorem lt_more5 {w : World} {b : Nat} (h : b < w.heap.size) (k l m n o : Nat) : b < w.heap.size + k + l + m + n + o := by omega
theorem lt_here1 {w : World} (k : Nat) : w.heap.size < w.heap.size + 1 + k := by omega
theorem lt_here2 {w : World} (k l : Nat) : w.heap.size < w.heap.size + 1 + k + l := by omega
theorem lt_here3 {w : World} (k l m : Nat) : w.heap.size < w.heap.size + 1 + k + l + m := by omega
attribute [go_sem] le_size cell?_ext frozen?_ext size_ext setCell_ext lt_more1 lt_more2 lt_more3 lt_more4 lt_more5 lt_here1 lt_here2 lt_here3 Nat.lt_add_right

theorem _root_.Go.RowKit.Below.to_ext {w w' : World} (h : Below w.heap.size w w') : ∃ x : Ext, w' = w.ext x := by
  refine ⟨⟨w'.heap.extract w.heap.size w'.heap.size, w'.drawn⟩, ?_⟩
  have hh : w'.heap = w.heap ++ w'.heap.extract w.heap.size w'.heap.size := by
    apply Array.ext
    · simp; have := h.size; omega
    · intro i h1 h2
      by_cases hi : i < w.heap.size
      · rw [Array.getElem_append_left hi]
        have := h.block i hi
        rw [Array.getElem?_eq_getElem h1, Array.getElem?_eq_getElem hi] at this
        exact Option.some.inj this
      · rw [Array.getElem_append_right (by omega)]
        simp
        congr 1
        omega
  have h1 := h.os; have h2 := h.tape; have h3 := h.output
  obtain ⟨p1, p2, p3, p4, p5⟩ := w
  obtain ⟨q1, q2, q3, q4, q5⟩ := w'
  simp only at h1 h2 h3 hh
  subst h1 h2 h3
  show World.mk _ _ _ _ _ = World.mk _ _ _ _ _
  congr 1
theorem _root_.Go.RowKit.Below.of_ext (w : World) (u : Ext) {B : Nat} (hB : B ≤ w.heap.size) : Below B w (w.ext u) :=
  ⟨rfl, rfl, rfl, by rw [size_ext]; omega, fun k hk => ext_block w u k (by omega)⟩
theorem _root_.Go.RowKit.Below.ext {B : Nat} {a w : World} (h : Below B a w) (hB : B ≤ w.heap.size) (u : Ext) : Below B a (w.ext u) := h.trans (Below.of_ext w u hB)

def RetX (v : Value) (w : World) (e : Ending) (w' : World) : Prop := e = .returned v ∧ ∃ u : Ext, w' = w.ext u
theorem Ret.b {a b : Bool} {w : World} (h : a = b) : Ret (.bool b) w (.returned (.bool a)) w := ⟨by rw [h], rfl⟩
theorem Ret.i {k : IntKind} {a b : Int} {w : World} (h : a = b) : Ret (.int k b) w (.returned (.int k a)) w := ⟨by rw [h], rfl⟩
theorem RetX.b {a b : Bool} {w w' : World} (h : a = b) (hb : Below w.heap.size w w') : RetX (.bool b) w (.returned (.bool a)) w' := ⟨by rw [h], Below.to_ext hb⟩
theorem RetX.i {k : IntKind} {a b : Int} {w w' : World} (h : a = b) (hb : Below w.heap.size w w') : RetX (.int k b) w (.returned (.int k a)) w' := ⟨by rw [h], Below.to_ext hb⟩

/-! ### What cells say -/
/-- What cells say, read in a world, all blocks that they name being of S. -/
class Rep (α : Type) where
  size : Nat
  is : World → (Nat → Prop) → α → List Value → Prop
  len : ∀ {w S x vs}, is w S x vs → vs.length = size
  keep : ∀ {w w' : World} {S x vs}, is w S x vs → w.heap.size ≤ w'.heap.size → (∀ b, S b → b < w.heap.size → w'.heap[b]? = w.heap[b]?) → is w' S x vs
  more : ∀ {w} {S S' : Nat → Prop} {x vs}, is w S x vs → (∀ b, b < w.heap.size → S b → S' b) → is w S' x vs
  one : ∀ {w S x vs}, is w S x vs → ∀ u ∈ vs, u.oneCell' = true

def InI (n : Int) : Prop := -9223372036854775808 ≤ n ∧ n ≤ 9223372036854775807

instance : Rep Int where
  size := 1
  is _ _ n vs := vs = [.int .i64 n] ∧ InI n
  len h := by rw [h.1]; rfl
  keep h _ _ := h
  more h _ := h
  one h := by rw [h.1]; simp [Value.oneCell']

instance : Rep Bool where
  size := 1
  is _ _ b vs := vs = [.bool b]
  len h := by rw [h]; rfl
  keep h _ _ := h
  more h _ := h
  one h := by rw [h]; simp [Value.oneCell']

instance : Rep ByteArray where
  size := 1
  is _ _ s vs := vs = [.string s] ∧ s.size ≤ maxLen
  len h := by rw [h.1]; rfl
  keep h _ _ := h
  more h _ := h
  one h := by rw [h.1]; simp [Value.oneCell']

instance {α β : Type} [Rep α] [Rep β] : Rep (α × β) where
  size := Rep.size α + Rep.size β
  is w S x vs := ∃ us ts, vs = us ++ ts ∧ Rep.is w S x.1 us ∧ Rep.is w S x.2 ts
  len h := by obtain ⟨us, ts, rfl, h1, h2⟩ := h; simp [Rep.len h1, Rep.len h2]
  keep h hs hk := by obtain ⟨us, ts, rfl, h1, h2⟩ := h; exact ⟨us, ts, rfl, Rep.keep h1 hs hk, Rep.keep h2 hs hk⟩
  more h hb := by obtain ⟨us, ts, rfl, h1, h2⟩ := h; exact ⟨us, ts, rfl, Rep.more h1 hb, Rep.more h2 hb⟩
  one h := by
    obtain ⟨us, ts, rfl, h1, h2⟩ := h
    intro u hu
    rcases List.mem_append.1 hu with h | h
    · exact Rep.one h1 u h
    · exact Rep.one h2 u h

/-- The slice value '.slice A n c' reads as the list xs, in blocks of S. -/
def Sl {α : Type} [Rep α] (w : World) (S : Nat → Prop) (A : Option Addr) (n c : Nat) (xs : List α) : Prop :=
  xs.length = n ∧ n ≤ c ∧ c ≤ maxLen ∧ (A = none → c = 0) ∧
  (0 < n → ∃ b off, A = some ⟨b, off, none⟩ ∧ b < w.heap.size ∧ S b ∧ ∀ i x, xs[i]? = some x → ∃ us, Rep.is w S x us ∧ ∀ j u, us[j]? = some u → w.cell? ⟨b, off + (i * Rep.size α + j), none⟩ = some u)

section
variable {α : Type} [Rep α] {w w' : World} {S S' : Nat → Prop} {n c : Nat} {A : Option Addr} {xs : List α}
theorem Sl.keep (h : Sl w S A n c xs) (hs : w.heap.size ≤ w'.heap.size) (hk : ∀ b, S b → b < w.heap.size → w'.heap[b]? = w.heap[b]?) : Sl w' S A n c xs := by
  obtain ⟨h1, h2, h3, h4, h5⟩ := h
  refine ⟨h1, h2, h3, h4, fun hn => ?_⟩
  obtain ⟨b, off, e, hb, hS, hx⟩ := h5 hn
  refine ⟨b, off, e, by omega, hS, fun i x hi => ?_⟩
  obtain ⟨us, hus, hc⟩ := hx i x hi
  exact ⟨us, Rep.keep hus hs hk, fun j u hj => (World.cell?_of_block (hk b hS hb)).trans (hc j u hj)⟩
theorem Sl.more (h : Sl w S A n c xs) (hS' : ∀ b, b < w.heap.size → S b → S' b) : Sl w S' A n c xs := by
  obtain ⟨h1, h2, h3, h4, h5⟩ := h
  refine ⟨h1, h2, h3, h4, fun hn => ?_⟩
  obtain ⟨b, off, e, hb, hS, hx⟩ := h5 hn
  refine ⟨b, off, e, hb, hS' b hb hS, fun i x hi => ?_⟩
  obtain ⟨us, hus, hc⟩ := hx i x hi
  exact ⟨us, Rep.more hus hS', hc⟩
theorem Sl.ext (h : Sl w S A n c xs) (u : Ext) : Sl (w.ext u) S A n c xs := h.keep (by rw [size_ext]; omega) fun b _ hb => ext_block w u b hb
theorem Sl.ext_swap {W W' : World} {u : Ext} (h : Sl (W.ext u) S A n c xs) (hs : W'.heap.size = W.heap.size) (hS : ∀ b, S b → W.heap.size ≤ b) : Sl (W'.ext u) S A n c xs :=
  h.keep (by rw [size_ext, size_ext, hs]; omega) fun b hb _ => ext_high W u W' hs b (hS b hb)
theorem Sl.alloc (h : Sl w S A n c xs) (o : Obj) : Sl (w.alloc o) S A n c xs := h.keep (by simp) fun b _ hb => Below.heap_alloc w o b hb
theorem Sl.drew (h : Sl w S A n c xs) : Sl w.drew S A n c xs := h.keep (Nat.le_refl _) fun _ _ _ => rfl
theorem Sl.drewN (h : Sl w S A n c xs) (k : Nat) : Sl (w.drewN k) S A n c xs := h.keep (Nat.le_refl _) fun _ _ _ => rfl
theorem Sl.setCell (h : Sl w S A n c xs) {a : Addr} (ha : ¬ S a.block) (u : Value) : Sl (w.setCell a u) S A n c xs :=
  h.keep (by simp) fun b hS _ => Below.heap_setCell w a u b (fun e => ha (e ▸ hS))
theorem Sl.below {B : Nat} (h : Sl w S A n c xs) (hb : Below B w w') (hS : ∀ b, S b → b < B) : Sl w' S A n c xs := h.keep hb.size fun b hb' _ => hb.block b (hS b hb')
theorem Sl.belowAll (h : Sl w S A n c xs) (hb : Below w.heap.size w w') : Sl w' S A n c xs := h.keep hb.size fun b _ hb' => hb.block b hb'
theorem Sl.len (h : Sl w S A n c xs) : xs.length = n := h.1
theorem Sl.nle (h : Sl w S A n c xs) : n ≤ 9223372036854775807 := by have := h.2.1; have := h.2.2.1; unfold maxLen at this; omega
theorem Sl.nil : Sl w S none 0 0 ([] : List α) := ⟨rfl, Nat.le_refl _, by simp [maxLen], fun _ => rfl, fun h => absurd h (by omega)⟩
theorem Sl.take_ (h : Sl w S A n c xs) {k : Nat} (hk : k ≤ n) : Sl w S A k c (xs.take k) := by
  obtain ⟨h1, h2, h3, h4, h5⟩ := h
  refine ⟨by rw [List.length_take]; omega, by omega, h3, h4, fun hn => ?_⟩
  obtain ⟨b, off, e, hb, hS, hx⟩ := h5 (by omega)
  refine ⟨b, off, e, hb, hS, fun i x hi => hx i x ?_⟩
  rw [List.getElem?_take] at hi
  split at hi
  · exact hi
  · cases hi
theorem Sl.at_ (h : Sl w S A n c xs) {k : Nat} (hk : k < n) : ∃ b off x us, A = some ⟨b, off, none⟩ ∧ b < w.heap.size ∧ S b ∧ xs[k]? = some x ∧ Rep.is w S x us ∧ ∀ j u, us[j]? = some u → w.cell? ⟨b, off + (k * Rep.size α + j), none⟩ = some u := by
  obtain ⟨b, off, e, hb, hS, hx⟩ := h.2.2.2.2 (by omega)
  have hl : k < xs.length := by rw [h.1]; exact hk
  obtain ⟨us, hus, hc⟩ := hx k _ (List.getElem?_eq_getElem hl)
  exact ⟨b, off, xs[k], us, e, hb, hS, List.getElem?_eq_getElem hl, hus, hc⟩
end

instance {α : Type} [Rep α] : Rep (List α) where
  size := 1
  is w S xs vs := ∃ A n c, vs = [.slice A n c] ∧ Sl w S A n c xs
  len h := by obtain ⟨A, n, c, rfl, _⟩ := h; rfl
  keep h hs hk := by obtain ⟨A, n, c, rfl, h⟩ := h; exact ⟨A, n, c, rfl, h.keep hs hk⟩
  more h hb := by obtain ⟨A, n, c, rfl, h⟩ := h; exact ⟨A, n, c, rfl, h.more hb⟩
  one h := by obtain ⟨A, n, c, rfl, _⟩ := h; simp [Value.oneCell']

/-- A struct reads as its fields do. -/
abbrev Rep.via {α β : Type} [Rep β] (f : α → β) : Rep α where
  size := Rep.size β
  is w S x vs := Rep.is w S (f x) vs
  len h := Rep.len (α := β) h
  keep h hs hk := Rep.keep (α := β) h hs hk
  more h hb := Rep.more (α := β) h hb
  one h := Rep.one (α := β) h

theorem at_int {w : World} {S : Nat → Prop} {n c : Nat} {A : Option Addr} {xs : List Int} (h : Sl w S A n c xs) {k : Nat} (hk : k < n) :
    ∃ b off x, A = some ⟨b, off, none⟩ ∧ b < w.heap.size ∧ xs[k]? = some x ∧ InI x ∧ w.cell? ⟨b, off + k, none⟩ = some (.int .i64 x) := by
  obtain ⟨b, off, x, us, e, hb, _, hx, hus, hc⟩ := h.at_ hk
  obtain ⟨rfl, hi⟩ := hus
  refine ⟨b, off, x, e, hb, hx, hi, ?_⟩
  have := hc 0 _ rfl
  simpa [Rep.size] using this

/-! ### Lists, from a place on -/
def hasI (v : Int) : List Int → Bool
  | [] => false
  | x :: l => x == v || hasI v l
def anyF {α : Type} (f : α → Bool) : List α → Bool
  | [] => false
  | x :: l => f x || anyF f l
def idxF {α : Type} (f : α → Bool) (k : Nat) : List α → Int
  | [] => -1
  | x :: l => if f x then (k : Int) else idxF f (k + 1) l
section
variable {α : Type} {xs : List α} {k n : Nat} {x : α}
theorem drop_at (h : xs[k]? = some x) : xs.drop k = x :: xs.drop (k + 1) := by
  obtain ⟨hl, he⟩ := List.getElem?_eq_some_iff.1 h
  rw [List.drop_eq_getElem_cons hl, he]
theorem take_at (h : xs[k]? = some x) : xs.take (k + 1) = xs.take k ++ [x] := by
  obtain ⟨hl, he⟩ := List.getElem?_eq_some_iff.1 h
  rw [List.take_succ_eq_append_getElem hl, he]
theorem drop_end (hl : xs.length = n) (h : ¬ k < n) : xs.drop k = [] := List.drop_eq_nil_of_le (by omega)
theorem take_end (hl : xs.length = n) (h : ¬ k < n) : xs.take k = xs := List.take_of_length_le (by omega)
end

/-! ### A region that draws its order: its operations read, its callees make memory -/
theorem wp_region_ext {P : Program} {id : Nat} {Q : Exit → Act → World → Prop} {a : Act} {w : World} {l : List Oper} (hm : P.follows .mixedOrders = true) (hB : Region.lexB .any l.toArray = true)
    (h : wpQuiet P l.toArray (fun w' => ∃ u, w' = w.ext u) (fun a' => ∀ w', (∃ u, w' = w.ext u) → Q .normal a' w') l a) : (Code.region id l.toArray true).wp P Q a w :=
  wp_region_quiet (C := fun w' => ∃ u, w' = w.ext u) hm hB (by obtain ⟨x, hx⟩ := ext_drew w; exact ⟨x, by rw [← hx]; rfl⟩) (by simpa using h)
theorem quiet_retx {P : Program} {f : FuncId} {args : Array Value} {w : World} {u : Ext} {v : Value}
    (h : Calls P f args (w.ext u) (RetX v (w.ext u))) : Calls P f args (w.ext u) fun e w'' => e = .returned v ∧ ∃ x, w'' = w.ext x :=
  h.mono fun _ _ ⟨he, x, hx⟩ => ⟨he, by rw [hx]; exact ext_ext w u x⟩
theorem quiet_ret {P : Program} {f : FuncId} {args : Array Value} {w : World} {u : Ext} {v : Value}
    (h : Calls P f args (w.ext u) (Ret v (w.ext u))) : Calls P f args (w.ext u) fun e w'' => e = .returned v ∧ ∃ x, w'' = w.ext x :=
  h.mono fun _ _ ⟨he, hx⟩ => ⟨he, u, hx.symm⟩
theorem quiet_ext {P : Program} {f : FuncId} {args : Array Value} {w : World} {u : Ext} {v : Value}
    (h : Calls P f args (w.ext u) fun e w' => e = .returned v ∧ ∃ x, w' = (w.ext u).ext x) : Calls P f args (w.ext u) fun e w'' => e = .returned v ∧ ∃ x, w'' = w.ext x :=
  h.mono fun _ _ ⟨he, x, hx⟩ => ⟨he, by rw [hx]; exact ext_ext w u x⟩
theorem quiet_ext_same {P : Program} {f : FuncId} {args : Array Value} {w : World} {u : Ext} {v : Value}
    (h : Calls P f args (w.ext u) fun e w' => e = .returned v ∧ w.ext u = w') : Calls P f args (w.ext u) fun e w'' => e = .returned v ∧ ∃ x, w'' = w.ext x :=
  h.mono fun _ _ ⟨he, hx⟩ => ⟨he, u, hx.symm⟩
end Go.Proofs.Ytbppamjogdjfkaa
