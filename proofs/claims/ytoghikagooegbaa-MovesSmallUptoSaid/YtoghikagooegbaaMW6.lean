/- Walks: two rows of instructions lie apart. -/
import Derived.Test.YtoghikagooegbaaMW5
import Derived.Test.YtoghikagooegbaaAR5
set_option linter.unusedSimpArgs false
set_option linter.unusedVariables false
namespace Go.Proofs.Ytoghikagooegbaa
open Go.RowKit Go.Maps
attribute [local instance] repInsN

/-- Rows of instructions whose lists are nil. -/
def OwnLN (w : World) (B : Nat) (T : TypeId) (S : Nat → Prop) (v : Value) (xs : List Ins) : Prop := OwnL w B T S v xs
section
variable {w w' : World} {B B' : Nat} {T : TypeId} {S S' : Nat → Prop} {v : Value} {xs : List Ins}
theorem OwnLN.form (h : OwnLN w B T S v xs) : ∃ A c, v = .slice A xs.length c := OwnL.form (show OwnL w B T S v xs from h)
theorem OwnLN.below_ (h : OwnLN w B T S v xs) : ∀ g, v.ownBlock = some g → B ≤ g ∧ g < w.heap.size := OwnL.below_ (show OwnL w B T S v xs from h)
theorem OwnLN.lower (h : OwnLN w B T S v xs) (hb : B' ≤ B) : OwnLN w B' T S v xs := OwnL.lower (show OwnL w B T S v xs from h) hb
theorem OwnLN.sl {A : Option Addr} {n c : Nat} (h : OwnLN w B T S (.slice A n c) xs) (hS' : ∀ b, b < w.heap.size → (S b ∨ B ≤ b) → S' b) : @Sl Ins instRepIns w S' A n c xs := slN_old (OwnL.sl (show OwnL w B T S (.slice A n c) xs from h) hS')
theorem OwnLN.keep (h : OwnLN w B T S v xs) (hs : w.heap.size ≤ w'.heap.size) (hS : ∀ b, S b → b < w.heap.size → w'.heap[b]? = w.heap[b]?) (hv : ∀ g, v.ownBlock = some g → w'.heap[g]? = w.heap[g]?) : OwnLN w' B T S v xs := OwnL.keep (show OwnL w B T S v xs from h) hs hS hv
theorem OwnLN.ext (h : OwnLN w B T S v xs) (u : Ext) : OwnLN (w.ext u) B T S v xs := OwnL.ext (show OwnL w B T S v xs from h) u
theorem OwnLN.alloc (h : OwnLN w B T S v xs) (o : Obj) : OwnLN (w.alloc o) B T S v xs := OwnL.alloc (show OwnL w B T S v xs from h) o
end
/-- What moves.Row leaves. -/
theorem retN {xs : List Ins} {e : Int} {w : World} {en : Ending} {w' : World} (h : RetRow26N xs e w en w') : ∃ A n c, en = .returned (.tuple #[.slice A n c, .int .i64 e]) ∧ OwnLN w' w.heap.size 54 (fun _ => False) (.slice A n c) xs ∧ ∃ u, w' = w.ext u := h
theorem apartTwo_any (w : World) (B g : Nat) (A1 A2 : Option Addr) (n1 c1 n2 c2 : Nat) (l1 l2 : List Ins) (h1 : OwnLN w B 54 (fun _ => False) (.slice A1 n1 c1) l1) (h2 : OwnLN w B 54 (fun _ => False) (.slice A2 n2 c2) l2)
    (ha : ∀ b, (Value.slice A1 n1 c1).ownBlock = some b → (Value.slice A2 n2 c2).ownBlock ≠ some b) (hg : w.heap[g]? = some (.cells #[.slice A1 n1 c1, .slice A2 n2 c2] 24 (0, 0))) (hgB : B ≤ g)
    (h1g : ∀ b, (Value.slice A1 n1 c1).ownBlock = some b → b < g) (h2g : ∀ b, (Value.slice A2 n2 c2).ownBlock = some b → b < g) (hn1 : n1 ≤ 400) (hn2 : n2 ≤ 400) :
    Calls Try.prog 19 #[.slice (some ⟨g, 0, none⟩) 2 2] w (fun e w' => e = .returned (.bool true) ∧ Below B w w') := by
  have hgl : g < w.heap.size := (Array.getElem?_eq_some_iff.1 hg).1
  have hk : ∀ (k : Nat) (h : Hdr), ([⟨A1, n1, c1⟩, ⟨A2, n2, c2⟩] : List Hdr)[k]? = some h → k = 0 ∧ h = ⟨A1, n1, c1⟩ ∨ k = 1 ∧ h = ⟨A2, n2, c2⟩ := by
    intro k h hk
    match k with
    | 0 => injection hk with hk; exact .inl ⟨rfl, hk.symm⟩
    | 1 => injection hk with hk; exact .inr ⟨rfl, hk.symm⟩
    | k + 2 => cases hk
  have ho : OwnL w g 24 (fun _ => False) (.slice (some ⟨g, 0, none⟩) 2 2) ([⟨A1, n1, c1⟩, ⟨A2, n2, c2⟩] : List Hdr) :=
    OwnL.of_block rfl (Nat.le_refl _) (by unfold maxLen; omega) (Nat.le_refl _) id hg rfl ⟨[.slice A1 n1 c1], [.slice A2 n2 c2], rfl, rfl, [.slice A2 n2 c2], [], rfl, rfl, rfl⟩
  refine apartRow_any w B (fun b => g ≤ b ∧ b < w.heap.size) (some ⟨g, 0, none⟩) 2 2 [⟨A1, n1, c1⟩, ⟨A2, n2, c2⟩] (fun k => if k = 0 then l1 else l2) ⟨ho.sl (fun b hb h => ?_), ⟨fun k h hkh => ?_, fun j k x y b hj hkk hne hx hy => ?_⟩, fun k h b hkh hb e => ?_, Below.refl _ _, fun b e => e.2, fun _ _ => rfl⟩ (Nat.le_of_lt (Nat.lt_of_le_of_lt hgB hgl)) (Nat.le_refl _) (fun k h hkh => ?_)
  · rcases h with h | h
    · exact h.elim
    · exact ⟨h, hb⟩
  · rcases hk k h hkh with ⟨rfl, rfl⟩ | ⟨rfl, rfl⟩
    · exact h1
    · exact h2
  · rcases hk j x hj with ⟨rfl, rfl⟩ | ⟨rfl, rfl⟩ <;> rcases hk k y hkk with ⟨rfl, rfl⟩ | ⟨rfl, rfl⟩
    · exact hne rfl
    · exact ha b hx hy
    · exact ha b hy hx
    · exact hne rfl
  · rcases hk k h hkh with ⟨rfl, rfl⟩ | ⟨rfl, rfl⟩
    · have := h1g b hb; omega
    · have := h2g b hb; omega
  · rcases hk k h hkh with ⟨rfl, rfl⟩ | ⟨rfl, rfl⟩
    · exact hn1
    · exact hn2
end Go.Proofs.Ytoghikagooegbaa
