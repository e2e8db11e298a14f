/- Lists that are lent: with marks behind their ends, in their spare room, and so the lists within them. Walks: lists of numbers that are lent, and kept. Walks: numbers that were lent are found kept. -/
import Derived.Test.YtljglhaeonbfoaaGreatDoorG20
import Derived.Test.YtljglhaeonbfoaaGreatDoorG2
import Derived.Test.YtljglhaeonbfoaaGreatDoorG25
import Derived.Test.YtljglhaeonbfoaaGreatDoorG23
set_option linter.unusedSimpArgs false
set_option linter.unusedVariables false
namespace Go.Proofs.YtljglhaeonbfoaaGreatDoor
open Go.RowKit
structure L (α : Type) where
 val : α
class Lend (α : Type) [Rep α] where
 rep : Rep (L α)
 size_eq : rep.size = Rep.size α
 marks : List α
 twelve : marks.length = 12
 forget : ∀ {w S x vs}, rep.is w S (L.mk x) vs → Rep.is w S x vs
instance {α : Type} [Rep α] [Lend α] : Rep (L α) := Lend.rep
inductive E (α : Type) where
 | lent (x : α)
 | plain (x : α)
section
variable {α : Type} [Rep α] [Lend α]
instance : Rep (E α) where
 size := Rep.size α
 is w S e vs := match e with
  | .lent x => Rep.is w S (L.mk x) vs
  | .plain x => Rep.is w S x vs
 len {w S x vs} h := by
  cases x with
  | lent x => exact (Rep.len (α := L α) h).trans Lend.size_eq
  | plain x => exact Rep.len (α := α) h
 keep {w w' S x vs} h hs hk := by
  cases x with
  | lent x => exact Rep.keep (α := L α) h hs hk
  | plain x => exact Rep.keep (α := α) h hs hk
 more {w S S' x vs} h hb := by
  cases x with
  | lent x => exact Rep.more (α := L α) h hb
  | plain x => exact Rep.more (α := α) h hb
 one {w S x vs} h := by
  cases x with
  | lent x => exact Rep.one (α := L α) h
  | plain x => exact Rep.one (α := α) h
def row (xs : List α) : List (E α) := xs.map .lent ++ (Lend.marks : List α).map .plain
def mks (α : Type) [Rep α] [Lend α] (k : Nat) : List α := (Lend.marks : List α).take k
theorem mks_all : mks α 12 = Lend.marks := List.take_of_length_le (by rw [Lend.twelve]; omega)
theorem mks_succ {k : Nat} {x : α} (h : (Lend.marks : List α)[k]? = some x) : mks α (k + 1) = mks α k ++ [x] := by
 obtain ⟨hl, he⟩ := List.getElem?_eq_some_iff.1 h
 unfold mks; rw [List.take_succ_eq_append_getElem hl, he]
theorem mks_len {k : Nat} (h : k ≤ 12) : (mks α k).length = k := by unfold mks; rw [List.length_take, Lend.twelve]; omega
theorem row_lent {xs : List α} {k : Nat} {x : α} (h : xs[k]? = some x) : (row xs)[k]? = some (.lent x) := by
 have hl : k < xs.length := (List.getElem?_eq_some_iff.1 h).1
 unfold row
 rw [List.getElem?_append_left (by simpa using hl)]
 simp [h]
theorem row_plain {xs : List α} {j : Nat} {x : α} (h : (Lend.marks : List α)[j]? = some x) : (row xs)[xs.length + j]? = some (.plain x) := by
 unfold row
 rw [List.getElem?_append_right (by simp)]
 simp [h]
theorem row_len {xs : List α} : (row xs).length = xs.length + 12 := by simp [row, Lend.twelve]
theorem Sl.forget {w : World} {S : Nat → Prop} {A : Option Addr} {n c : Nat} {xs : List α} (h : Sl w S A (n + 12) c (row xs)) (hn : xs.length = n) : Sl w S A n c xs := by
 obtain ⟨h1, h2, h3, h4, h5⟩ := h
 refine ⟨hn, by omega, h3, h4, fun h0 => ?_⟩
 obtain ⟨b, off, e, hb, hS, hx⟩ := h5 (by omega)
 refine ⟨b, off, e, hb, hS, fun i x hi => ?_⟩
 obtain ⟨us, hus, hc⟩ := hx i _ (row_lent hi)
 exact ⟨us, Lend.forget hus, hc⟩
theorem Sl.at_lent {w : World} {S : Nat → Prop} {A : Option Addr} {n c : Nat} {xs : List α} (h : Sl w S A (n + 12) c (row xs)) (hn : xs.length = n) {k : Nat} (hk : k < n) :
  ∃ b off x us, A = some ⟨b, off, none⟩ ∧ b < w.heap.size ∧ S b ∧ xs[k]? = some x ∧ Rep.is w S (L.mk x) us ∧ ∀ j u, us[j]? = some u → w.cell? ⟨b, off + (k * Rep.size α + j), none⟩ = some u := by
 obtain ⟨b, off, y, us, e, hb, hS, hx, hus, hc⟩ := h.at_ (show k < n + 12 by omega)
 have hl : k < xs.length := by omega
 have hx' := row_lent (List.getElem?_eq_getElem hl)
 rw [hx'] at hx
 injection hx with hx
 subst hx
 exact ⟨b, off, xs[k], us, e, hb, hS, List.getElem?_eq_getElem hl, hus, hc⟩
theorem Sl.at_mark {w : World} {S : Nat → Prop} {A : Option Addr} {n c : Nat} {xs : List α} (h : Sl w S A (n + 12) c (row xs)) (hn : xs.length = n) {j : Nat} (hj : j < 12) {x : α} (hx : (Lend.marks : List α)[j]? = some x) :
  ∃ b off us, A = some ⟨b, off, none⟩ ∧ b < w.heap.size ∧ S b ∧ Rep.is w S x us ∧ ∀ i u, us[i]? = some u → w.cell? ⟨b, off + ((n + j) * Rep.size α + i), none⟩ = some u := by
 obtain ⟨b, off, y, us, e, hb, hS, hy, hus, hc⟩ := h.at_ (show n + j < n + 12 by omega)
 have hx' := row_plain (xs := xs) hx
 rw [hn, hy] at hx'
 injection hx' with hx'
 subst hx'
 exact ⟨b, off, us, e, hb, hS, hus, hc⟩
end
instance {α : Type} [Rep α] [Lend α] : Rep (L (List α)) where
 size := 1
 is w S xs vs := ∃ A n c, vs = [.slice A n c] ∧ xs.val.length = n ∧ Sl w S A (n + 12) c (row xs.val)
 len h := by obtain ⟨A, n, c, rfl, _, _⟩ := h; rfl
 keep h hs hk := by obtain ⟨A, n, c, rfl, hn, h⟩ := h; exact ⟨A, n, c, rfl, hn, h.keep hs hk⟩
 more h hb := by obtain ⟨A, n, c, rfl, hn, h⟩ := h; exact ⟨A, n, c, rfl, hn, h.more hb⟩
 one h := by obtain ⟨A, n, c, rfl, _, _⟩ := h; simp [Value.oneCell']
instance : Lend Int where
 rep := Rep.via L.val
 size_eq := rfl
 marks := (List.range 12).map fun i => markI 1 (i : Nat)
 twelve := rfl
 forget h := h
def RetLent {α : Type} [Rep α] [Lend α] (xs : List α) (w : World) (e : Ending) (w' : World) : Prop :=
 ∃ A n c, e = .returned (.slice A n c) ∧ xs.length = n ∧ Sl w' (fun b => w.heap.size ≤ b) A (n + 12) c (row xs) ∧ ∃ u : Ext, w' = w.ext u
theorem OwnL.form_pos {α : Type} [Rep α] {w : World} {base : Nat} {T : TypeId} {S : Nat → Prop} {v : Value} {xs : List α} {n : Nat} (h : OwnL w base T S v xs) (hn : xs.length = n) (h0 : 0 < n) : ∃ g c, v = .slice (some ⟨g, 0, none⟩) n c ∧ n ≤ c ∧ c ≤ 9223372036854775807 := by
 obtain ⟨vals, ⟨_, h⟩, _⟩ := h
 rcases h with ⟨rfl, h1⟩ | ⟨g, cap, cur, rfl, _, _, hc, hm, _⟩
 ·omega
 ·subst hn; exact ⟨g, cap, rfl, hc, by unfold maxLen at hm; omega⟩
end Go.Proofs.YtljglhaeonbfoaaGreatDoor
namespace Go.Proofs.YtljglhaeonbfoaaGreatDoor
open Go.RowKit
theorem markI_in (i : Nat) (h : i < 12) : InI (markI 1 i) := by unfold InI markI; omega
theorem InI_zero : InI 0 := by unfold InI; decide
theorem marks_int {j : Nat} (h : j < 12) : (Lend.marks : List Int)[j]? = some (markI 1 j) := by
 show ((List.range 12).map fun i => markI 1 (i : Nat))[j]? = _
 simp [h]
theorem lentInts_close {w w1 : World} {v : Value} {n : Nat} {xs : List Int} (HL : Hd (xs.length = n)) (ho : OwnL w1 w.heap.size 3 (fun _ => False) v (xs ++ mks Int 12)) (hb : Below w.heap.size w w1) :
  ∃ g cap, v = .slice (some ⟨g, 0, none⟩) (n + 12) cap ∧ n + 12 ≤ cap ∧ cap ≤ 9223372036854775807 ∧ RetLent xs w (.returned (.slice (some ⟨g, 0, none⟩) n cap)) w1 := by
 rw [mks_all] at ho
 obtain ⟨g, cap, rfl, hc, hm⟩ := ho.form_pos (n := n + 12) (by rw [List.length_append, HL.out]; rfl) (by omega)
 refine ⟨g, cap, rfl, hc, hm, some ⟨g, 0, none⟩, n, cap, rfl, HL.out, ?_, Below.to_ext hb⟩
 have hs := ho.sl (S' := fun b => w.heap.size ≤ b) (fun b _ h => by rcases h with h | h; exact h.elim; exact h)
 obtain ⟨q1, q2, q3, q4, q5⟩ := hs
 refine ⟨by rw [row_len, HL.out], q2, q3, q4, fun h0 => ?_⟩
 obtain ⟨b, off, e, hb, hS, hx⟩ := q5 h0
 refine ⟨b, off, e, hb, hS, fun i x hi => ?_⟩
 have hi' : (xs ++ (Lend.marks : List Int))[i]? = some (match x with | .lent y => y | .plain y => y) := by
  unfold row at hi
  rw [List.getElem?_append] at hi ⊢
  rw [List.length_map] at hi
  split
  ·rename_i hlt
   rw [if_pos hlt, List.getElem?_map] at hi
   cases hq : xs[i]? with
   | none => rw [hq] at hi; simp at hi
   | some q => rw [hq] at hi; simp at hi; subst hi; rfl
  ·rename_i hlt
   rw [if_neg hlt, List.getElem?_map] at hi
   cases hq : (Lend.marks : List Int)[i - xs.length]? with
   | none => rw [hq] at hi; simp at hi
   | some q => rw [hq] at hi; simp at hi; subst hi; rfl
 obtain ⟨us, hus, hc⟩ := hx i _ hi'
 refine ⟨us, ?_, hc⟩
 cases x with
 | lent y => exact hus
 | plain y => exact hus
theorem lentInts_any (w : World) (S : Nat → Prop) (A : Option Addr) (n c : Nat) (xs : List Int) (h : Sl w S A n c xs) (hm : xs.length ≤ 1048576) :
  Calls Tryz.prog 21 #[.slice A n c] w (RetLent xs w) := by
 have HL := hide h.len
 have hn : n ≤ 1048576 := by rw [← h.len]; exact hm
 have HM := hide hm; clear hm
 obtain ⟨i0, hi, hz, hz1, hz2⟩ := info_parts info_int
 have HI0 := hide hi; have HZ := hide hz; have HZ1 := hide hz1; have HZ2 := hide hz2
 clear hi hz hz1 hz2
 obtain ⟨B, hB⟩ : ∃ B, B = w.heap.size := ⟨_, rfl⟩
 have HB := hide hB
 have hB1 : B ≤ w.heap.size := by omega
 have hB2 : w.heap.size ≤ B := by omega
 clear hB
 have HSl := hide h; clear h
 go_enter Tryz.func21, Tryz.ntmps21
 go_wp2_with (first
  | (at_make; refine wpList_make_own _ rfl _ _ 22 rfl B 3 i0 _ 1 Tryz.underlying22 HI0.out HZ.out HZ1.out _ _ _ (n + 12) rfl rfl (by omega) (by rw [HZ2.out]; omega) (by unfold maxLen; omega) hB1 ?_; intro w1 hown hg; have HO := hide hown; have HG := hide hg; clear hown hg)
  | (at_builtin; refine wpList_push_sl (α := Int) _ rfl (.tmp 9) (.tmp 10) 22 rfl B 3 i0 _ 8 Tryz.underlying22 HI0.out HZ.out HZ1.out HZ2.out rfl (by decide) (fun _ => False) (fun b => b < B) (fun b => b < B) (.slice (some ⟨w.heap.size, 0, none⟩) 0 (n + 12)) [] xs rfl ⟨[], HO.out, rfl, fun _ _ h => h⟩ A n c rfl ?hsl (fun _ h => h.elim) ?hS2 ?hap ?hnew ?h63 ?hby ?hba ?_; rotate_left 7; intro v2 w2 hown2 hg2 _; have HO2 := hide hown2; have HG2 := hide hg2; clear hown2 hg2))
 case hsl => exact (HSl.out.more (fun b hb _ => by omega)).belowAll (below_grown HG.out (Nat.le_refl _))
 case hS2 => exact fun b _ h => h
 case hap => intro g hg h; simp [Value.ownBlock] at hg; omega
 case hnew => intro b h; have := HG.out.size; omega
 case h63 => simp; omega
 case hby => simp; omega
 case hba => have := HG.out.size; omega
 have HO3 := hide (OwnL.ints HO2.out)
 clear HO2
 have hb2 : Below B w w2 := ((below_grown HG.out hB1).grown HG2.out (by have := HG.out.size; omega) (by intro k hk; simp [Value.ownBlock] at hk; omega))
 have HB2 := hide hb2
 have hs2 : B ≤ w2.heap.size := by have := hb2.size; omega
 clear hb2 HG HG2 HO
 go_loopw [3, 4] (fun o i wr => ∃ k : Nat, k ≤ 12 ∧ i = .int .i64 k ∧ OwnL wr B 3 (fun _ => False) o (xs ++ mks Int k) ∧ Below B w wr ∧ B ≤ wr.heap.size) (fun _ i _ => 12 - (intOf i).toNat)
 case atStart => exact ⟨0, by omega, rfl, by have := HO3.out; rw [List.nil_append] at this; rw [show mks Int 0 = [] from rfl, List.append_nil]; exact this, HB2.out, hs2⟩
 case round =>
  obtain ⟨k, hk, rfl, hown, hbel, hsz⟩ := hrel
  have HO := hide hown; have HBel := hide hbel
  clear hown hbel
  by_cases hlt : k < 12
  ·go_wp2_with (first
    | (go_at_call 61; refine (mark_any 1 k _ (by omega) (by omega)).mono ?_; rintro e w' ⟨rfl, rfl⟩)
    | (at_builtin; refine wpList_push (α := Int) wr [.int .i64 (markI 1 k)] 3 rfl (.tmp 16) (.tmp 19) 22 rfl B 3 i0 _ 8 Tryz.underlying22 HI0.out HZ.out HZ1.out HZ2.out rfl (by decide) (fun _ => False) (fun _ => False) u3 _ (markI 1 k) rfl HO.out _ rfl rfl ⟨rfl, markI_in k hlt⟩ (fun _ h => h) (fun _ _ h => h) (fun _ h => h.elim) ?hl1 ?hl2 hsz ?_; rotate_left 2; intro v' w1 hown' hg _; have HO' := hide hown'; have HG := hide hg; clear hown' hg))
   case hl1 => rw [List.length_append, HL.out, mks_len (by omega)]; omega
   case hl2 => rw [List.length_append, HL.out, mks_len (by omega)]; omega
   go_wp2
   go_roundw
   case rel =>
    have hb1 := below_push HBel.out HO.out hsz HG.out
    exact ⟨k + 1, by omega, by go_num, by rw [mks_succ (marks_int hlt), ← List.append_assoc]; exact HO'.out, hb1, Nat.le_trans hB1 hb1.size⟩
   case measure => simp [intOf]; omega
  ·obtain rfl : k = 12 := by omega
   obtain ⟨g, cap, rfl, hc1, hc2, hret⟩ := lentInts_close HL (by rw [← HB.out]; exact HO.out) (by rw [← HB.out]; exact HBel.out)
   have HR := hide hret; clear hret hlt
   go_wp2
   go_ret
   exact HR.out
end Go.Proofs.YtljglhaeonbfoaaGreatDoor
namespace Go.Proofs.YtljglhaeonbfoaaGreatDoor
open Go.RowKit
theorem at_lent_int {w : World} {S : Nat → Prop} {A : Option Addr} {n c : Nat} {xs : List Int} (h : Sl w S A (n + 12) c (row xs)) (hn : xs.length = n) {k : Nat} (hk : k < n) :
  ∃ b off x, A = some ⟨b, off, none⟩ ∧ b < w.heap.size ∧ xs[k]? = some x ∧ w.cell? ⟨b, off + k, none⟩ = some (.int .i64 x) := by
 obtain ⟨b, off, x, us, e, hb, _, hx, hus, hc⟩ := h.at_lent hn hk
 obtain ⟨rfl, hi⟩ := hus
 refine ⟨b, off, x, e, hb, hx, ?_⟩
 have := hc 0 _ rfl
 simpa [Rep.size] using this
theorem at_mark_int {w : World} {S : Nat → Prop} {A : Option Addr} {n c : Nat} {xs : List Int} (h : Sl w S A (n + 12) c (row xs)) (hn : xs.length = n) {j : Nat} (hj : j < 12) :
  ∃ b off, A = some ⟨b, off, none⟩ ∧ b < w.heap.size ∧ w.cell? ⟨b, off + (n + j), none⟩ = some (.int .i64 (markI 1 j)) := by
 obtain ⟨b, off, us, e, hb, _, hus, hc⟩ := h.at_mark hn hj (marks_int hj)
 obtain ⟨rfl, hi⟩ := hus
 refine ⟨b, off, e, hb, ?_⟩
 have := hc 0 _ rfl
 simpa [Rep.size] using this
theorem keptInts_any (w : World) (S S' : Nat → Prop) (A A' : Option Addr) (n c c' : Nat) (xs : List Int) (h : Sl w S A (n + 12) c (row xs)) (h' : Sl w S' A' n c' xs) (hm : xs.length ≤ 1048576) :
  Calls Tryz.prog 36 #[.slice A n c, .slice A' n c'] w (RetX (.bool true) w) := by
 have hn : n ≤ 1048576 := by rw [← h'.len]; exact hm
 have hc : n + 12 ≤ c := h.2.1
 have hcm : c ≤ 9223372036854775807 := by have := h.2.2.1; unfold maxLen at this; omega
 have HL := hide h'.len
 obtain ⟨b, off, rfl, hb, -⟩ := at_mark_int h h'.len (show 0 < 12 by omega)
 have HS := hide h; have HS' := hide h'
 clear h h' hm
 go_enter Tryz.func36, Tryz.ntmps36
 go_wp2
 go_loopw [6] (fun i wr => ∃ k : Nat, k ≤ n + 12 ∧ i = .int .i64 k ∧ ∃ u, wr = w.ext u) (fun i _ => n + 12 - (intOf i).toNat)
 case atStart => exact ⟨0, Nat.zero_le _, rfl, ext_refl _⟩
 case round =>
  obtain ⟨k, hk, rfl, u, rfl⟩ := hrel
  by_cases hlt : k < n + 12
  ·by_cases hkn : k < n
   ·obtain ⟨b1, off1, x, e1, -, hx, hcell⟩ := at_lent_int HS.out HL.out hkn
    simp only [Option.some.injEq, Addr.mk.injEq] at e1
    obtain ⟨rfl, rfl, -⟩ := e1
    obtain ⟨b', off', x', rfl, hb', hx', -, hcell'⟩ := at_int HS'.out hkn
    obtain rfl := some_eq hx hx'
    clear hx hx'
    have hd : decide (k < n) = true := by simpa using hkn
    have hd' : decide (n ≤ k) = false := by simp; omega
    go_wp2
    refine wp_region_ext (by kernel_rfl) (by kernel_rfl) ?_
    repeat (any_goals (first | go_big_quiet_step ((fail)) | quiet_step ((fail))))
    refine wpQuiet_nil ?_
    rintro _ ⟨uq, rfl⟩
    go_wp2
    go_roundw
    case rel => exact ⟨k + 1, by omega, by go_num, Below.to_ext (by repeat (first | exact Below.refl _ _ | assumption | refine Below.alloc ?_ (by simp [size_ext]; try omega) _ | refine Below.ext ?_ (by simp [size_ext]; try omega) _ | refine Below.drew ?_ | refine Below.setCell ?_ (by simp [size_ext]; try omega) _))⟩
    case measure => simp [intOf]; omega
   ·obtain ⟨j, hj⟩ : ∃ j, k = n + j := ⟨k - n, by omega⟩
    have hj1 : j < 12 := by omega
    obtain ⟨b1, off1, e1, -, hcell⟩ := at_mark_int HS.out HL.out hj1
    simp only [Option.some.injEq, Addr.mk.injEq] at e1
    obtain ⟨rfl, rfl, -⟩ := e1
    rw [← hj] at hcell
    have hs : IntKind.i64.wrap ((k : Int) - n) = (j : Int) := by rw [IntWalk.i64_in _ (by omega)]; omega
    have HJ := hide hj; clear hj
    have hd : decide (k < n) = false := by simp; omega
    have hd' : decide (n ≤ k) = true := by simp; omega
    have h1 : (0 : Int) ≤ (k : Int) := by omega
    have h2 : (k : Int) < (n : Int) + 12 := by omega
    go_wp2
    refine wp_region_ext (by kernel_rfl) (by kernel_rfl) ?_
    repeat (any_goals (first | go_big_quiet_step (((go_at_call 61; exact quiet_ret (mark_any 1 j _ (by omega) (by omega))))) | quiet_step (((go_at_call 61; exact quiet_ret (mark_any 1 j _ (by omega) (by omega)))))))
    refine wpQuiet_nil ?_
    rintro _ ⟨uq, rfl⟩
    go_wp2
    go_roundw
    case rel => exact ⟨k + 1, by omega, by go_num, Below.to_ext (by repeat (first | exact Below.refl _ _ | assumption | refine Below.alloc ?_ (by simp [size_ext]; try omega) _ | refine Below.ext ?_ (by simp [size_ext]; try omega) _ | refine Below.drew ?_ | refine Below.setCell ?_ (by simp [size_ext]; try omega) _))⟩
    case measure => simp [intOf]; omega
  ·go_wp2
   go_ret
   exact RetX.b rfl (by repeat (first | exact Below.refl _ _ | assumption | refine Below.alloc ?_ (by simp [size_ext]; try omega) _ | refine Below.ext ?_ (by simp [size_ext]; try omega) _ | refine Below.drew ?_ | refine Below.setCell ?_ (by simp [size_ext]; try omega) _))
end Go.Proofs.YtljglhaeonbfoaaGreatDoor
