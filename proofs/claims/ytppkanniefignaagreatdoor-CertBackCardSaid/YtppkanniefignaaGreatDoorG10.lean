/- Which words may be shown: the program's and the document's right. What showing numbers reads of package-level variables. -/
import Derived.Test.YtppkanniefignaaGreatDoorG9
import Derived.Test.YtppkanniefignaaGreatDoorShelfB
import Derived.Lib.AppendIntMem
import Derived.BigGuardPart
import Derived.Test.YtppkanniefignaaGreatDoorG5
set_option linter.unusedSimpArgs false
set_option linter.unusedVariables false
namespace Go.Proofs.YtppkanniefignaaGreatDoor
open Go.RowKit

/-- What showing reads of package-level variables. -/
structure VarsS (w : World) : Prop where
  v : Vars w
  p10 : Lib.TabIs Tryz.prog w "internal/strconv.uint64pow10" .u64 Lib.pow10Tab
  u8 : Lib.Utf8Tabs 1 2 w
theorem gP10 : Tryz.prog.globalNamed "internal/strconv.uint64pow10" = some 3 := by kernel_rfl
theorem VarsS.keep {w w' : World} (h : VarsS w) (hs : w.heap.size ≤ w'.heap.size) (hk : ∀ b, b < 8 → w'.heap[b]? = w.heap[b]?) : VarsS w' := by
  refine ⟨h.v.keep hs hk, ?_, fun c hc => ?_, fun i hi => ⟨?_, ?_⟩⟩
  · have := h.p10
    unfold Lib.TabIs World.var? at this ⊢
    rw [gP10] at this ⊢
    simp only [Option.bind_some] at this ⊢
    rw [hk _ (by show 3 < 8; omega)]; exact this
  · exact (World.cell?_of_block (hk _ (by show 1 < 8; omega))).trans (h.u8.1 c hc)
  · exact (World.cell?_of_block (hk _ (by show 2 < 8; omega))).trans (h.u8.2 i hi).1
  · exact (World.cell?_of_block (hk _ (by show 2 < 8; omega))).trans (h.u8.2 i hi).2
theorem VarsS.below {w w' : World} {B : Nat} (h : VarsS w) (hb : Below B w w') (hB : 8 ≤ B) : VarsS w' := h.keep hb.size fun b hb' => hb.block b (by omega)
theorem VarsS.ext {w : World} (h : VarsS w) (u : Ext) : VarsS (w.ext u) := h.below (Below.of_ext w u (Nat.le_refl _)) h.v.sz
theorem VarsS.alloc {w : World} (h : VarsS w) (ob : Obj) : VarsS (w.alloc ob) := h.below ((Below.refl _ _).alloc (Nat.le_refl _) ob) h.v.sz
def itoaB (n : Int) : ByteArray := ⟨(Lib.itoa n).toArray⟩
theorem itoa_any (n : Int) (hn : InI n) (w : World) (hv : VarsS w) : Calls Tryz.prog 102 #[.int .i64 n] w (RetX (.string (itoaB n)) w) := by
  refine (Tryz.strconv_Itoa n hn.1 hn.2 w hv.p10).mono ?_
  rintro e w' ⟨rfl, k, os, rfl⟩
  exact ⟨rfl, (Lib.below_grow _ w (Nat.le_refl _) k os).to_ext⟩
/-- The rune that a text begins with, and how many bytes it has, as the library decodes it. -/
theorem dec_any (s : ByteArray) (w : World) (hv : VarsS w) : Calls Tryz.prog 118 #[.string s] w (RetX (.tuple #[.int .i32 (Lib.decodeGo s).1, .int .i64 (Lib.decodeGo s).2]) w) := by
  refine (Tryz.utf8_DecodeRuneInString s w hv.u8).mono ?_
  rintro e w' ⟨rfl, hb⟩
  exact ⟨rfl, hb.to_ext⟩
/-- Is a text just one sign? -/
def sgnT (t : ByteArray) : Bool := match items t 0 with
  | [c] => isS c
  | _ => false
theorem sgn_go (t : ByteArray) : (decide ((Lib.decodeGo t).2 = t.size) && isS (Lib.decodeGo t).1) = sgnT t := by
  unfold sgnT Lib.decodeGo
  by_cases h0 : t.size = 0
  · rw [if_pos h0, items_end (by omega)]; simp
    intro _
    decide
  · rw [if_neg h0]
    have hp : 0 < t.size := by omega
    cases hg : goodAt t 0 with
    | false =>
      rw [items_bad hp hg]
      have hr : (Utf8.decode t 0).1 = 65533 := Classical.byContradiction fun h => by rw [good_not h] at hg; cases hg
      rw [hr]
      have e : isS ((65533 : Nat) : Int) = false := by decide
      rw [e, Bool.and_false]; decide
    | true =>
      rw [items_good hp hg, Nat.zero_add]
      by_cases he : (Utf8.decode t 0).2 = t.size
      · rw [he, items_end (by omega)]; simp
      · have hw := width_le hp
        obtain ⟨c, l, hi⟩ := items_ne (s := t) (i := (Utf8.decode t 0).2) (by omega)
        rw [hi]; simp [he]
theorem sgn_at (t : ByteArray) : (decide (0 < (atR t 0).2) && decide ((atR t 0).2 = t.size) && isS (atR t 0).1) = sgnT t := by
  rw [← sgn_go]
  unfold Lib.decodeGo
  by_cases h0 : t.size = 0
  · rw [if_pos h0, atR_out (by omega)]; simp; intro _; decide
  · rw [if_neg h0]
    have hp : 0 < t.size := by omega
    have hw := Lib.decode_width_pos t 0 hp
    cases hg : goodAt t 0 with
    | true => rw [atR_good hp hg, show decide (0 < (Utf8.decode t 0).2) = true by simp; omega, Bool.true_and]
    | false =>
      rw [atR_bad hg]
      have hr : (Utf8.decode t 0).1 = 65533 := Classical.byContradiction fun h => by rw [good_not h] at hg; cases hg
      rw [hr]
      have e : isS ((65533 : Nat) : Int) = false := by decide
      rw [e]; simp
/-- Which words may be shown. -/
def rightW (x : Word) : Bool :=
  if x.kind = 1 then x.n == 0 && isNameR 0 (items x.text 0)
  else if x.kind = 2 then decide (-1099511627776 ≤ x.n) && decide (x.n ≤ 1099511627776) && (x.text.toList == (itoaB x.n).toList)
  else if x.kind = 3 then x.n == 0 && sgnT x.text
  else x.kind == 4 && x.n == 0 && x.text.toList.isEmpty

end Go.Proofs.YtppkanniefignaaGreatDoor
set_option linter.unusedSimpArgs false
set_option linter.unusedVariables false
namespace Go.Proofs.YtppkanniefignaaGreatDoor
open Go.RowKit

structure VarsP (w : World) : Prop where
  v : Vars w
  p10 : Lib.TabIs Tryz.prog w "internal/strconv.uint64pow10" .u64 Lib.pow10Tab
theorem VarsP.keep {w w' : World} (h : VarsP w) (hs : w.heap.size ≤ w'.heap.size) (hk : ∀ b, b < 8 → w'.heap[b]? = w.heap[b]?) : VarsP w' := by
  refine ⟨h.v.keep hs hk, ?_⟩
  have := h.p10
  unfold Lib.TabIs World.var? at this ⊢
  rw [gP10] at this ⊢
  simp only [Option.bind_some] at this ⊢
  rw [hk _ (by show 3 < 8; omega)]; exact this
theorem VarsP.below {w w' : World} {B : Nat} (h : VarsP w) (hb : Below B w w') (hB : 8 ≤ B) : VarsP w' := h.keep hb.size fun b hb' => hb.block b (by omega)
theorem VarsP.ext {w : World} (h : VarsP w) (u : Ext) : VarsP (w.ext u) := h.below (Below.of_ext w u (Nat.le_refl _)) h.v.sz
theorem VarsP.alloc {w : World} (h : VarsP w) (ob : Obj) : VarsP (w.alloc ob) := h.below ((Below.refl _ _).alloc (Nat.le_refl _) ob) h.v.sz
theorem itoaP_any (n : Int) (hn : InI n) (w : World) (hv : VarsP w) : Calls Tryz.prog 102 #[.int .i64 n] w (RetX (.string (itoaB n)) w) := by
  refine (Tryz.strconv_Itoa n hn.1 hn.2 w hv.p10).mono ?_
  rintro e w' ⟨rfl, k, os, rfl⟩
  exact ⟨rfl, (Lib.below_grow _ w (Nat.le_refl _) k os).to_ext⟩
end Go.Proofs.YtppkanniefignaaGreatDoor
