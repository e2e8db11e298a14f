/- Lists in memory of the call's own: a literal, their elements, texts. Words of a row of the call's own, joined by blanks. law04: walks: a line's words, as a text. -/
import Derived.Test.YtljglhaeonbfoaaGreatDoorG2
import Derived.Test.YtljglhaeonbfoaaGreatDoorG17
import Derived.Test.YtljglhaeonbfoaaGreatDoorShelfB
import Derived.Test.YtljglhaeonbfoaaGreatDoorG21
import Derived.Test.YtljglhaeonbfoaaGreatDoorG10
import Derived.Test.YtljglhaeonbfoaaGreatDoorG16
import Derived.Test.YtljglhaeonbfoaaGreatDoorG24
import Derived.Lib.ItoaLen
set_option linter.unusedSimpArgs false
set_option linter.unusedVariables false
namespace Go.Proofs.YtljglhaeonbfoaaGreatDoor
open Go.RowKit
theorem OwnL.at_own {α : Type} [Rep α] {w : World} {base : Nat} {T : TypeId} {S : Nat → Prop} {A : Option Addr} {n c : Nat} {xs : List α} (h : OwnL w base T S (.slice A n c) xs) {k : Nat} (hk : k < n) :
  ∃ g x us, A = some ⟨g, 0, none⟩ ∧ base ≤ g ∧ g < w.heap.size ∧ ¬ S g ∧ xs[k]? = some x ∧ Rep.is w S x us ∧ ∀ j u, us[j]? = some u → w.cell? ⟨g, k * Rep.size α + j, none⟩ = some u := by
 obtain ⟨vals, ⟨h1, h⟩, hr, hap⟩ := h
 rcases h with ⟨e, h0⟩ | ⟨g, cap, cur, e, hg, hh, hnc, hcm, hsz, htake⟩
 ·injection e with e1 e2 e3
  omega
 ·injection e with e1 e2 e3
  subst e1 e2 e3
  have hgl : g < w.heap.size := (Array.getElem?_eq_some_iff.1 hh).1
  obtain ⟨us, hus, hc⟩ := hr.at_ (List.getElem?_eq_getElem hk)
  refine ⟨g, xs[k], us, rfl, hg, hgl, hap g rfl, List.getElem?_eq_getElem hk, hus, fun j u hj => ?_⟩
  rw [cell_of_row w g _ cur T (0, 0) hh]
  have := hc j u hj
  rw [← htake, List.getElem?_take] at this
  split at this
  ·simpa using this
  ·cases this
theorem OwnL.texts {w : World} {base : Nat} {T : TypeId} {S : Nat → Prop} {A : Option Addr} {n c : Nat} {xs : List ByteArray} (h : OwnL w base T S (.slice A n c) xs) (hne : xs ≠ []) : ∃ g, A = some ⟨g, 0, none⟩ ∧ g < w.heap.size ∧ xs.length = n ∧ n ≤ c ∧ ∀ (j : Nat) (x : ByteArray), xs[j]? = some x → w.cell? ⟨g, 0 + j, none⟩ = some (.string x) := by
 have hs := h.sl (S' := fun _ => True) fun _ _ _ => trivial
 have hn : 0 < n := by
  rw [← hs.len]
  cases xs with
  | nil => exact absurd rfl hne
  | cons x l => simp
 obtain ⟨g, x, us, e, _, hg, _⟩ := h.at_own hn
 refine ⟨g, e, hg, hs.len, hs.2.1, fun j x hj => ?_⟩
 have hjn : j < n := by rw [← hs.len]; exact (List.getElem?_eq_some_iff.1 hj).1
 obtain ⟨g2, y, us, e2, _, _, _, hy, hus, hc⟩ := h.at_own hjn
 rw [e] at e2
 injection e2 with e2
 injection e2 with e2
 subst e2
 rw [hj] at hy
 injection hy with hy
 subst hy
 obtain ⟨rfl, _⟩ := hus
 have := hc 0 _ rfl
 simpa [Rep.size] using this
end Go.Proofs.YtljglhaeonbfoaaGreatDoor
namespace Go.Proofs.YtljglhaeonbfoaaGreatDoor
open Go.RowKit
theorem tailX_szm (m : Nat) : ∀ l : List ByteArray, (∀ x ∈ l, x.size ≤ m) → (tailX l).size ≤ (m + 1) * l.length
 | [], _ => by simp [tailX]
 | x :: l, h => by
  have h1 := tailX_szm m l fun y hy => h y (List.mem_cons_of_mem _ hy)
  have h2 := h x (by simp)
  have h3 : (⟨#[32]⟩ : ByteArray).size = 1 := rfl
  show ((⟨#[32]⟩ ++ x) ++ tailX l).size ≤ _
  simp only [ByteArray.size_append, h3, List.length_cons, Nat.mul_add, Nat.mul_one]
  omega
theorem joinX_szm (m : Nat) (l : List ByteArray) (h : ∀ x ∈ l, x.size ≤ m) : (joinX l).size ≤ (m + 1) * l.length := by
 cases l with
 | nil => simp [joinX]
 | cons x l =>
  have h1 := tailX_szm m l fun y hy => h y (List.mem_cons_of_mem _ hy)
  have h2 := h x (by simp)
  show (x ++ tailX l).size ≤ _
  simp only [ByteArray.size_append, List.length_cons, Nat.mul_add, Nat.mul_one]
  omega
theorem join_joinX (l : List ByteArray) : (⟨(Lib.join (l.map (·.data.toList)) (⟨#[32]⟩ : ByteArray).data.toList).toArray⟩ : ByteArray) = joinX l := by
 apply bytes_ext
 cases l with
 | nil => rfl
 | cons x l =>
  simp only [List.map_cons, Lib.join_cons]
  have key : ∀ l : List ByteArray, Lib.joinTail (⟨#[32]⟩ : ByteArray).data.toList (l.map (·.data.toList)) = (tailX l).data.toList := by
   intro l
   induction l with
   | nil => rfl
   | cons y l ih =>
    have ih' := ih
    unfold Lib.joinTail at ih' ⊢
    simp only [List.map_cons, List.flatten_cons]
    rw [ih']
    simp [tailX]
  show x.data.toList ++ _ = (x ++ tailX l).data.toList
  rw [key]
  simp
theorem joinx_any (w : World) (base : Nat) (T : TypeId) (S : Nat → Prop) (A : Option Addr) (n c : Nat) (xs : List ByteArray) (h : OwnL w base T S (.slice A n c) xs) (hne : xs ≠ []) (hl : xs.length ≤ 1048576) (hz : (joinX xs).size ≤ 140737488355328) : Calls Tryz.prog 71 #[.slice A n c, .string ⟨#[32]⟩] w (RetX (.string (joinX xs)) w) := by
 obtain ⟨g, rfl, hg, hn, hnc, hcells⟩ := h.texts hne
 subst hn
 have e := join_joinX xs
 have hj : (Lib.join (xs.map (·.data.toList)) (⟨#[32]⟩ : ByteArray).data.toList).length ≤ 140737488355328 := by
  have : (joinX xs).size = (Lib.join (xs.map (·.data.toList)) (⟨#[32]⟩ : ByteArray).data.toList).length := by rw [← e]; simp [ByteArray.size]
  omega
 refine (Tryz.strings_Join g 0 c xs ⟨#[32]⟩ w hcells hg (by omega) hnc hj).mono ?_
 rintro e' w' ⟨rfl, hb⟩
 exact ⟨by rw [e], hb.to_ext⟩
end Go.Proofs.YtljglhaeonbfoaaGreatDoor
namespace Go.Proofs.YtljglhaeonbfoaaGreatDoor
open Go.RowKit
inductive Pt4 where
 | int (n : Int)
 | str (s : ByteArray)
 | vars (l : List Int)
def ptW : Pt4 → List ByteArray
 | .int n => [itoaB n]
 | .str s => [s]
 | .vars l => l.map docVar
def allW (ps : List Pt4) : List ByteArray := ps.flatMap ptW
instance : Rep Pt4 where
 size := 1
 is w S x vs := match x with
  | .int n => vs = [.iface 3 (.int .i64 n)] ∧ InI n
  | .str s => vs = [.iface 9 (.string s)] ∧ s.size ≤ 1024
  | .vars l => ∃ A n c, vs = [.iface 22 (.slice A n c)] ∧ Sl w S A n c l ∧ n ≤ 1024
 len {w S x vs} h := by
  cases x with
  | int n => obtain ⟨rfl, _⟩ := h; rfl
  | str s => obtain ⟨rfl, _⟩ := h; rfl
  | vars l => obtain ⟨A, n, c, rfl, _⟩ := h; rfl
 keep {w w' S x vs} h hs hk := by
  cases x with
  | int n => exact h
  | str s => exact h
  | vars l => obtain ⟨A, n, c, e, h1, h2⟩ := h; exact ⟨A, n, c, e, h1.keep hs hk, h2⟩
 more {w S S' x vs} h hS := by
  cases x with
  | int n => exact h
  | str s => exact h
  | vars l => obtain ⟨A, n, c, e, h1, h2⟩ := h; exact ⟨A, n, c, e, h1.more hS, h2⟩
 one {w S x vs} h := by
  cases x with
  | int n => obtain ⟨rfl, _⟩ := h; simp [Value.oneCell']
  | str s => obtain ⟨rfl, _⟩ := h; simp [Value.oneCell']
  | vars l => obtain ⟨A, n, c, rfl, _⟩ := h; simp [Value.oneCell']
theorem zero_str4 : (Tryz.prog.info? 9).map (·.zero) = some (some (.string ⟨#[]⟩)) := by kernel_rfl
theorem info_str4 : (Tryz.prog.info? 9).map (fun i => (i.zero, i.size, i.bytes)) = some (some (.string ⟨#[]⟩), 1, 16) := by kernel_rfl
theorem as_str4 (v : Value) (w : World) : (Instr.typeAssert (.iface 9 v) 20 9 true).run Tryz.prog w = .ok (.tuple #[v, .bool true]) w := by simp [Instr.typeAssert, run_underlying Tryz.underlying9]
theorem as_str4_no (t : TypeId) (ht : t ≠ 9) (v : Value) (w : World) : (Instr.typeAssert (.iface t v) 20 9 true).run Tryz.prog w = .ok (.tuple #[.string ⟨#[]⟩, .bool false]) w := by
 obtain ⟨i, e, z⟩ := Option.map_eq_some_iff.1 zero_str4
 simp [Instr.typeAssert, run_underlying Tryz.underlying9, ht, zeroValue, typeInfo, e, z]
theorem as_ints4 (v : Value) (w : World) : (Instr.typeAssert (.iface 22 v) 20 22 true).run Tryz.prog w = .ok (.tuple #[v, .bool true]) w := by simp [Instr.typeAssert, run_underlying Tryz.underlying22]
theorem itoa4_sz (n : Int) (h : InI n) : (itoaB n).size ≤ 21 := by
 have := Lib.itoa_length_le n h.1 h.2
 unfold itoaB
 show (Lib.itoa n).toArray.size ≤ 21
 simpa using this
set_option maxRecDepth 100000 in
set_option maxHeartbeats 8000000 in
theorem shown_any (w : World) (n : Int) (hn : InI n) (hv : VarsP w) : Calls Tryz.prog 70 #[.int .i64 n] w (RetX (.string (docVar n)) w) := by
 have HIT := hide (itoaP_any n hn w hv)
 have hts := itoa4_sz n hn
 have HD := hide (show docVar n = ⟨#[118]⟩ ++ itoaB n from rfl)
 generalize itoaB n = t at HIT hts HD
 have h1 : (⟨#[118]⟩ : ByteArray).size = 1 := rfl
 have g1 : (⟨#[118]⟩ : ByteArray).size + t.size ≤ 9223372036854775807 := by omega
 clear hv hts h1
 go_enter Tryz.func70, Tryz.ntmps70
 go_wp2_with (first | (go_at_call 33; (with_reducible refine HIT.out.mono ?_); rintro e _ ⟨rfl, u, rfl⟩) | (simp only [run_string_add_sum _ _ _ g1]))
 go_ret
 exact ⟨by rw [HD.out]; rfl, u, rfl⟩
theorem docVar_sz {n : Int} (h : InI n) : (docVar n).size ≤ 22 := by
 have := itoa4_sz n h
 unfold docVar
 rw [ByteArray.size_append]
 have : (⟨#[118]⟩ : ByteArray).size = 1 := rfl
 omega
theorem at_Pt4 {w : World} {S : Nat → Prop} {A : Option Addr} {n c : Nat} {xs : List Pt4} (h : Sl w S A n c xs) {k : Nat} (hk : k < n) :
  ∃ b off, ∃ x : Pt4, ∃ v, A = some ⟨b, off, none⟩ ∧ b < w.heap.size ∧ xs[k]? = some x ∧ Rep.is w S x [v] ∧ w.cell? ⟨b, off + k, none⟩ = some v := by
 obtain ⟨b, off, x, us, e, hb, _, hx, hus, hc⟩ := h.at_ hk
 have hl := Rep.len hus
 obtain ⟨v, rfl⟩ : ∃ v, us = [v] := by
  match us, hl with
  | [v], _ => exact ⟨v, rfl⟩
 refine ⟨b, off, x, v, e, hb, hx, hus, ?_⟩
 have := hc 0 _ rfl
 simpa [Rep.size] using this
theorem allW_take {ps : List Pt4} {k : Nat} {x : Pt4} (h : ps[k]? = some x) : allW (ps.take (k + 1)) = allW (ps.take k) ++ ptW x := by
 unfold allW
 rw [List.take_add_one, h]
 simp
end Go.Proofs.YtljglhaeonbfoaaGreatDoor
