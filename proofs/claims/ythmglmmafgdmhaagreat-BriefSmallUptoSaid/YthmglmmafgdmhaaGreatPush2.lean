/- append of one element, to a slice of the call's own, in a world that is one with blocks more. -/
import Derived.Test.YthmglmmafgdmhaaGreatOwn
set_option linter.unusedSimpArgs false
set_option linter.unusedVariables false
namespace Go.Proofs.YthmglmmafgdmhaaGreat
open Go.RowKit
theorem OwnL.more_ext {α : Type} [Rep α] {W : World} {base : Nat} {T : TypeId} {S : Nat → Prop} {v : Value} {xs : List α} (h : OwnL W base T S v xs) (u : Ext) : OwnL (W.ext u) base T S v xs := by
  obtain ⟨vals, ⟨hl, h⟩, hr, ha⟩ := h
  refine ⟨vals, ⟨hl, ?_⟩, RepL.keep hr (by rw [size_ext]; omega) fun b _ hb => ext_block W u b hb, ha⟩
  rcases h with h | ⟨g, cap, cur, e, hg, hh, hrest⟩
  · exact .inl h
  · exact .inr ⟨g, cap, cur, e, hg, by rw [ext_block W u g (Array.getElem?_eq_some_iff.1 hh).1]; exact hh, hrest⟩
section
variable {P : Program} {α : Type} [Rep α] {ops : Array Oper} {rest : List Oper} {o : Oper} {a : Act} {Q : Exit → Act → World → Prop}
theorem wpList_push_ext (W : World) (u : Ext) (us : List Value) (T' : TypeId) (hgd : o.guard = none) (s x : Operand) (t : TypeId)
    (ho : o.op = .call { callee := .builtin .append, args := #[s, x], argTypes := #[t, t] })
    (T : TypeId) (i : TypeInfo) (z : Value) (bytes : Nat) (ht : P.underlying t = some (.slice T)) (hi : P.info? T = some i) (hz : i.zero = some z)
    (hsize : i.size = Rep.size α) (hby : i.bytes = bytes) (hzs : z.cells.size = Rep.size α) (hsz : 0 < Rep.size α)
    (v : Value) (xs : List α) (y : α) (hs : a.eval s = v) (hown : OwnL (W.ext u) W.heap.size T (fun _ => False) v xs)
    (g : Nat) (hx : a.eval x = .slice (some ⟨g, 0, none⟩) 1 1) (hgW : g = W.heap.size + u.blocks.size) (hr : Rep.is (W.ext u) (fun _ => False) y us)
    (hlen : (xs.length + 1) * bytes ≤ 140737488355328) (hlen' : xs.length + 1 ≤ 9223372036854775807)
    (h : ∀ v' x, OwnL (W.ext x) W.heap.size T (fun _ => False) v' (xs ++ [y]) → wpList P ops Q rest (a.put o.dst v') (W.ext x)) :
    wpList P ops Q (o :: rest) a ((W.ext u).alloc (.cells us.toArray T')) := by
  refine wpList_push (α := α) (W.ext u) us T' hgd s x t ho W.heap.size T i z bytes ht hi hz hsize hby hzs hsz (fun _ => False) (fun _ => False) v xs y hs hown g hx (by rw [size_ext]; exact hgW) hr (fun _ h => h) (fun _ _ h => h) (fun _ h => h.elim)
    hlen hlen' (by rw [size_ext]; omega) fun v' w' h1 h2 _ => ?_
  obtain ⟨x, rfl⟩ := (below_push (Below.of_ext W u (Nat.le_refl _)) hown (by rw [size_ext]; omega) h2).to_ext
  exact h v' x h1
theorem wpList_push_new (W : World) (us : List Value) (T' : TypeId) (hgd : o.guard = none) (s x : Operand) (t : TypeId)
    (ho : o.op = .call { callee := .builtin .append, args := #[s, x], argTypes := #[t, t] })
    (T : TypeId) (i : TypeInfo) (z : Value) (bytes : Nat) (ht : P.underlying t = some (.slice T)) (hi : P.info? T = some i) (hz : i.zero = some z)
    (hsize : i.size = Rep.size α) (hby : i.bytes = bytes) (hzs : z.cells.size = Rep.size α) (hsz : 0 < Rep.size α)
    (v : Value) (xs : List α) (y : α) (hs : a.eval s = v) (hown : OwnL W W.heap.size T (fun _ => False) v xs)
    (g : Nat) (hx : a.eval x = .slice (some ⟨g, 0, none⟩) 1 1) (hgW : g = W.heap.size) (hr : Rep.is W (fun _ => False) y us)
    (hlen : (xs.length + 1) * bytes ≤ 140737488355328) (hlen' : xs.length + 1 ≤ 9223372036854775807)
    (h : ∀ v' x, OwnL (W.ext x) W.heap.size T (fun _ => False) v' (xs ++ [y]) → wpList P ops Q rest (a.put o.dst v') (W.ext x)) :
    wpList P ops Q (o :: rest) a (W.alloc (.cells us.toArray T')) := by
  refine wpList_push (α := α) W us T' hgd s x t ho W.heap.size T i z bytes ht hi hz hsize hby hzs hsz (fun _ => False) (fun _ => False) v xs y hs hown g hx hgW hr (fun _ h => h) (fun _ _ h => h) (fun _ h => h.elim)
    hlen hlen' (Nat.le_refl _) fun v' w' h1 h2 _ => ?_
  obtain ⟨x, rfl⟩ := (below_push (Below.refl _ _) hown (Nat.le_refl _) h2).to_ext
  exact h v' x h1
end
end Go.Proofs.YthmglmmafgdmhaaGreat
