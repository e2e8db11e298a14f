/- Walks: what an instruction, an end reads and writes, the program's way; are places the same. -/
import Derived.Test.YtoghikagooegbaaN7
import Derived.Test.YtoghikagooegbaaN5
import Derived.Test.YtoghikagooegbaaW3
set_option linter.unusedSimpArgs false
set_option linter.unusedVariables false
namespace Go.Proofs.Ytoghikagooegbaa
open Go.RowKit

def regsL (l : List Int) : List Loc := l.map fun r => ⟨false, r⟩
def manyN (m : Machine) (i : Ins) : Nat := (max (min i.many (m.args.length : Int)) 0).toNat
def readsP (m : Machine) (i : Ins) : List Loc :=
  if bt (hasP i.op) 32 = true then regsL (m.args.take (manyN m i)) else if bt (hasP i.op) 4 = true then [⟨false, i.a⟩, ⟨false, i.b⟩] else if bt (hasP i.op) 2 = true then [⟨false, i.a⟩] else if bt (hasP i.op) 16 = true then [⟨true, i.imm⟩] else []
def writesP (m : Machine) (i : Ins) : List Loc :=
  if bt (hasP i.op) 32 = true then [⟨false, m.ret⟩] else if bt (hasP i.op) 1 = true then [⟨false, i.dst⟩] else if bt (hasP i.op) 16 = true then [⟨true, i.imm⟩] else []
def needsP (t : Term) : List Loc := if t.kind = 2 ∨ t.kind = 3 ∧ t.a ≠ -1 then [⟨false, t.a⟩] else []

theorem retSl_of {α : Type} [Rep α] {w W W' : World} {T : TypeId} {S : Nat → Prop} {A : Option Addr} {n c : Nat} {xs ys : List α} (he : ys = xs) (ho : OwnL W' W.heap.size T S (.slice A n c) xs) (hS : ∀ b, S b → W.heap.size ≤ b ∧ b < W'.heap.size)
    (hw : w.heap.size ≤ W.heap.size) (hb : Below w.heap.size w W') : RetSl ys w (.returned (.slice A n c)) W' :=
  ⟨A, n, c, rfl, by rw [he]; exact ho.sl (fun b _ hb => by rcases hb with hb | hb; exact Nat.le_trans hw (hS b hb).1; exact Nat.le_trans hw hb), Below.to_ext hb⟩
theorem readsP_call_eq {m : Machine} {i : Ins} {k : Nat} (c32 : bt (hasP i.op) 32 = true) (hk : manyN m i = k) : readsP m i = (m.args.take k).map fun r => (⟨false, r⟩ : Loc) := by
  rw [readsP, if_pos c32, hk]; rfl
theorem sl_ints {w : World} {S : Nat → Prop} {T : TypeId} {n g : Nat} (xs : List Int) (hx : ∀ x ∈ xs, InI x) (hg : g = w.heap.size) (hn : xs.length = n) (hm : n ≤ 9223372036854775807) (hg' : S g) : Sl (w.alloc (.cells (xs.map (Value.int .i64)).toArray T)) S (some ⟨g, 0, none⟩) n n xs :=
  Sl.lit (S := fun _ => False) hg (RepL.ints xs hx) hn hm (fun _ h => h.elim) hg'
theorem retSl_loc {w W : World} {T : TypeId} {g : Nat} {x : Loc} {ys : List Loc} (he : ys = [x]) (hx : InI x.n) (hg : g = W.heap.size) (hw : w.heap.size ≤ W.heap.size) (hb : Below w.heap.size w W) :
    RetSl ys w (.returned (.slice (some ⟨g, 0, none⟩) 1 1)) (W.alloc (.cells #[.bool x.slot, .int .i64 x.n] T)) :=
  ⟨_, _, _, rfl, by rw [he]; exact Sl.lit (us := [.bool x.slot, .int .i64 x.n]) (S := fun _ => False) hg (RepL.single (Loc.mk_ hx)) rfl (by decide) (fun _ h => h.elim) (by rw [hg]; exact hw), Below.to_ext (hb.alloc hw _)⟩
theorem retSl_nil {α : Type} [Rep α] {w W : World} {ys : List α} (he : ys = []) (hb : Below w.heap.size w W) : RetSl ys w (.returned (.slice none 0 0)) W :=
  ⟨_, _, _, rfl, by rw [he]; exact Sl.nil, Below.to_ext hb⟩
theorem two_ini {a b : Int} (ha : InI a) (hb : InI b) : ∀ x ∈ [a, b], InI x := by intro x hx; rcases List.mem_cons.1 hx with rfl | hx; exact ha; rcases List.mem_cons.1 hx with rfl | hx; exact hb; cases hx
theorem one_ini {a : Int} (ha : InI a) : ∀ x ∈ [a], InI x := by intro x hx; rcases List.mem_cons.1 hx with rfl | hx; exact ha; cases hx
end Go.Proofs.Ytoghikagooegbaa
