/- Lists of numbers that are lent, each of its own row. -/
import Derived.Test.YthmglmmafgdmhaaGreatK2
import Derived.Test.YthmglmmafgdmhaaGreatAP1
import Derived.Test.YthmglmmafgdmhaaGreatFlow6
set_option linter.unusedSimpArgs false
set_option linter.unusedVariables false
namespace Go.Proofs.YthmglmmafgdmhaaGreat
open Go.RowKit

/-- It returns a list that is lent, in a row of its own. -/
def RetLentO (xs : List Int) (w : World) (e : Ending) (w' : World) : Prop :=
  ∃ g c, e = .returned (.slice (some ⟨g, 0, none⟩) xs.length c) ∧ Sl w' (fun b => w.heap.size ≤ b) (some ⟨g, 0, none⟩) (xs.length + 12) c (row xs) ∧ OwnL w' w.heap.size 3 (fun _ => False) (.slice (some ⟨g, 0, none⟩) xs.length c) xs ∧ ∃ u : Ext, w' = w.ext u
theorem lentIntsO_close {w w1 : World} {v : Value} {n : Nat} {xs : List Int} (HL : Hd (xs.length = n)) (ho : OwnL w1 w.heap.size 3 (fun _ => False) v (xs ++ mks Int 12)) (hb : Below w.heap.size w w1) :
    ∃ g cap, v = .slice (some ⟨g, 0, none⟩) (n + 12) cap ∧ n + 12 ≤ cap ∧ cap ≤ 9223372036854775807 ∧ RetLentO xs w (.returned (.slice (some ⟨g, 0, none⟩) n cap)) w1 := by
  obtain ⟨g, cap, rfl, h1, h2, A, n', c', e, hn', hs, u, hu⟩ := lentInts_close HL ho hb
  injection e with e
  injection e with e1 e2 e3
  subst e1 e3
  have hl := HL.out
  subst hl
  refine ⟨g, cap, rfl, h1, h2, g, cap, rfl, by rw [hn']; exact hs, ho.prefix_of rfl (by omega) (List.take_left' rfl), u, hu⟩
theorem lentInts_own (w : World) (S : Nat → Prop) (A : Option Addr) (n c : Nat) (xs : List Int) (h : Sl w S A n c xs) (hm : xs.length ≤ 1048576) :
    Calls Tryz.prog 8 #[.slice A n c] w (RetLentO xs w) := by
  have HL := hide h.len
  have hn : n ≤ 1048576 := by rw [← h.len]; exact hm
  have HM := hide hm; clear hm
  obtain ⟨i0, hi, hz, hz1, hz2⟩ := info_parts info_int
  have HI0 := hide hi; have HZ := hide hz; have HZ1 := hide hz1; have HZ2 := hide hz2
  clear hi hz hz1 hz2
  obtain ⟨B, hB⟩ : ∃ B, B = w.heap.size := ⟨_, rfl⟩
  have HB := hide hB
  have hB1 : B ≤ w.heap.size := by omega
  have hB2 : w.heap.size ≤ B := by omega
  clear hB
  have HSl := hide h; clear h
  go_enter Tryz.func8, Tryz.ntmps8
  go_wp2_with (first
    | (at_make; refine wpList_make_own _ rfl _ _ 22 rfl B 3 i0 _ 1 Tryz.underlying22 HI0.out HZ.out HZ1.out _ _ _ (n + 12) rfl rfl (by omega) (by rw [HZ2.out]; omega) (by unfold maxLen; omega) hB1 ?_; intro w1 hown hg; have HO := hide hown; have HG := hide hg; clear hown hg)
    | (at_builtin; refine wpList_push_sl (α := Int) _ rfl (.tmp 9) (.tmp 10) 22 rfl B 3 i0 _ 8 Tryz.underlying22 HI0.out HZ.out HZ1.out HZ2.out rfl (by decide) (fun _ => False) (fun b => b < B) (fun b => b < B) (.slice (some ⟨w.heap.size, 0, none⟩) 0 (n + 12)) [] xs rfl ⟨[], HO.out, rfl, fun _ _ h => h⟩ A n c rfl ?hsl (fun _ h => h.elim) ?hS2 ?hap ?hnew ?h63 ?hby ?hba ?_; rotate_left 7; intro v2 w2 hown2 hg2 _; have HO2 := hide hown2; have HG2 := hide hg2; clear hown2 hg2))
  case hsl => exact (HSl.out.more (fun b hb _ => by omega)).belowAll (below_grown HG.out (Nat.le_refl _))
  case hS2 => exact fun b _ h => h
  case hap => intro g hg h; simp [Value.ownBlock] at hg; omega
  case hnew => intro b h; have := HG.out.size; omega
  case h63 => simp; omega
  case hby => simp; omega
  case hba => have := HG.out.size; omega
  have HO3 := hide (OwnL.ints HO2.out)
  clear HO2
  have hb2 : Below B w w2 := ((below_grown HG.out hB1).grown HG2.out (by have := HG.out.size; omega) (by intro k hk; simp [Value.ownBlock] at hk; omega))
  have HB2 := hide hb2
  have hs2 : B ≤ w2.heap.size := by have := hb2.size; omega
  clear hb2 HG HG2 HO
  go_loopw [3, 4] (fun o i wr => ∃ k : Nat, k ≤ 12 ∧ i = .int .i64 k ∧ OwnL wr B 3 (fun _ => False) o (xs ++ mks Int k) ∧ Below B w wr ∧ B ≤ wr.heap.size) (fun _ i _ => 12 - (intOf i).toNat)
  case atStart => exact ⟨0, by omega, rfl, by have := HO3.out; rw [List.nil_append] at this; rw [show mks Int 0 = [] from rfl, List.append_nil]; exact this, HB2.out, hs2⟩
  case round =>
    obtain ⟨k, hk, rfl, hown, hbel, hsz⟩ := hrel
    have HO := hide hown; have HBel := hide hbel
    clear hown hbel
    by_cases hlt : k < 12
    · go_wp2_with (first
        | (go_at_call 27; refine (mark_any 1 k _ (by omega) (by omega)).mono ?_; rintro e w' ⟨rfl, rfl⟩)
        | (at_builtin; refine wpList_push (α := Int) wr [.int .i64 (markI 1 k)] 3 rfl (.tmp 16) (.tmp 19) 22 rfl B 3 i0 _ 8 Tryz.underlying22 HI0.out HZ.out HZ1.out HZ2.out rfl (by decide) (fun _ => False) (fun _ => False) u3 _ (markI 1 k) rfl HO.out _ rfl rfl ⟨rfl, markI_in k hlt⟩ (fun _ h => h) (fun _ _ h => h) (fun _ h => h.elim) ?hl1 ?hl2 hsz ?_; rotate_left 2; intro v' w1 hown' hg _; have HO' := hide hown'; have HG := hide hg; clear hown' hg))
      case hl1 => rw [List.length_append, HL.out, mks_len (by omega)]; omega
      case hl2 => rw [List.length_append, HL.out, mks_len (by omega)]; omega
      go_wp2
      go_roundw
      case rel =>
        have hb1 := below_push HBel.out HO.out hsz HG.out
        exact ⟨k + 1, by omega, by go_num, by rw [mks_succ (marks_int hlt), ← List.append_assoc]; exact HO'.out, hb1, Nat.le_trans hB1 hb1.size⟩
      case measure => simp [intOf]; omega
    · obtain rfl : k = 12 := by omega
      obtain ⟨g, cap, rfl, hc1, hc2, hret⟩ := lentIntsO_close HL (by rw [← HB.out]; exact HO.out) (by rw [← HB.out]; exact HBel.out)
      have HR := hide hret; clear hret hlt
      go_wp2
      go_ret
      exact HR.out
theorem OwnL.base_to {α : Type} [Rep α] {w : World} {base base' : Nat} {T : TypeId} {S : Nat → Prop} {v : Value} {xs : List α} (h : OwnL w base T S v xs) (hb : base' ≤ base) : OwnL w base' T S v xs := by
  obtain ⟨vals, ⟨h1, h⟩, h2⟩ := h
  refine ⟨vals, ⟨h1, ?_⟩, h2⟩
  rcases h with h | ⟨g, cap, cur, e, hg, rest⟩
  · exact .inl h
  · exact .inr ⟨g, cap, cur, e, Nat.le_trans hb hg, rest⟩
theorem Sl.row_at {w : World} {S : Nat → Prop} {g n c : Nat} {xs : List Int} (h : Sl w S (some ⟨g, 0, none⟩) (n + 12) c (row xs)) : Sl w (fun b => b = g) (some ⟨g, 0, none⟩) (n + 12) c (row xs) := by
  obtain ⟨q1, q2, q3, q4, q5⟩ := h
  refine ⟨q1, q2, q3, q4, fun h0 => ?_⟩
  obtain ⟨b, off, e, hb, hS, hx⟩ := q5 h0
  injection e with e
  injection e with e1 e2
  subst e1 e2
  refine ⟨_, _, rfl, hb, rfl, fun i x hi => ?_⟩
  obtain ⟨us, hus, hc⟩ := hx i x hi
  exact ⟨us, by cases x <;> exact hus, hc⟩
/-- A list that is lent, made by one operation. -/
def LentIv (B n : Nat) (xs : List Int) : Nat → Nat → Post := fun lo hi v w => ∃ g c, v = .slice (some ⟨g, 0, none⟩) n c ∧ lo ≤ g ∧ g < hi ∧ Sl w (fun b => b = g) (some ⟨g, 0, none⟩) (n + 12) c (row xs) ∧ OwnL w B 3 (fun _ => False) (.slice (some ⟨g, 0, none⟩) n c) xs
theorem LentIv.stable_ {F : World → Prop} {B n : Nat} {xs : List Int} {mem : Bool} (hm : mem = true) (lo hi : Nat) : stable F mem (LentIv B n xs lo hi) :=
  stable_mem hm fun _ _ u ⟨g, c, hv, h0, h1, h2, h3⟩ => ⟨g, c, hv, h0, h1, h2.ext u, h3.ext u⟩
/-- A machine built of two lists that are lent. -/
def BuiltIv (B : Nat) (m : Machine) (n1 n2 : Nat) : Nat → Nat → Post := fun _ _ v w => ∃ ga ca gs cs, v = .agg #[.int .i64 m.regs, .slice (some ⟨ga, 0, none⟩) n1 ca, .int .i64 m.ret, .slice (some ⟨gs, 0, none⟩) n2 cs] ∧ ga ≠ gs ∧
  (Sl w (fun b => b = ga) (some ⟨ga, 0, none⟩) (n1 + 12) ca (row m.args) ∧ OwnL w B 3 (fun _ => False) (.slice (some ⟨ga, 0, none⟩) n1 ca) m.args) ∧
  (Sl w (fun b => b = gs) (some ⟨gs, 0, none⟩) (n2 + 12) cs (row m.saved) ∧ OwnL w B 3 (fun _ => False) (.slice (some ⟨gs, 0, none⟩) n2 cs) m.saved)
theorem BuiltIv.stable_ {F : World → Prop} {B : Nat} {m : Machine} {n1 n2 : Nat} {mem : Bool} (hm : mem = true) (lo hi : Nat) : stable F mem (BuiltIv B m n1 n2 lo hi) :=
  stable_mem hm fun _ _ u ⟨ga, ca, gs, cs, hv, h1, ⟨h2, h3⟩, h4, h5⟩ => ⟨ga, ca, gs, cs, hv, h1, ⟨h2.ext u, h3.ext u⟩, h4.ext u, h5.ext u⟩
/-- A machine's own memory. -/
def MachIv (B : Nat) : Nat → Nat → Post := fun _ _ v w => ∃ g, v = .pointer (some ⟨g, 0, none⟩) ∧ B ≤ g ∧ w.heap[g]? = some (.cells #[.int .i64 0, .slice none 0 0, .int .i64 0, .slice none 0 0] 150 (0, 0))
theorem MachIv.stable_ {F : World → Prop} {B : Nat} {mem : Bool} (hm : mem = true) (lo hi : Nat) : stable F mem (MachIv B lo hi) :=
  stable_mem hm fun _ w u ⟨g, hv, h1, h⟩ => ⟨g, hv, h1, ((Below.of_ext w u (Nat.le_refl _)).block g (Array.getElem?_eq_some_iff.1 h).1).trans h⟩
theorem OwnL.type_of {w : World} {B : Nat} {T : TypeId} {g n c : Nat} {xs : List Int} (h : OwnL w B T (fun _ => False) (.slice (some ⟨g, 0, none⟩) n c) xs) : ∃ cs, w.heap[g]? = some (.cells cs T (0, 0)) := by
  obtain ⟨h1, h2, h3, h4, hg, h5, cur, h6, h7, h8⟩ := h.form_at
  exact ⟨cur, h6⟩
/-- A list of numbers made by one operation. -/
def OwnIw (B n : Nat) (xs : List Int) : Nat → Nat → Post := fun lo hi v w => ∃ A c, v = .slice A n c ∧ OwnL w B 3 (fun _ => False) (.slice A n c) xs ∧ ∀ g, (Value.slice A n c).ownBlock = some g → lo ≤ g ∧ g < hi
theorem OwnIw.stable_ {F : World → Prop} {B n : Nat} {xs : List Int} {mem : Bool} (hm : mem = true) (lo hi : Nat) : stable F mem (OwnIw B n xs lo hi) :=
  stable_mem hm fun _ _ u ⟨A, c, hv, h, h'⟩ => ⟨A, c, hv, h.ext u, h'⟩
end Go.Proofs.YthmglmmafgdmhaaGreat
