/- Which words may be shown: the program's and the document's right. What showing numbers reads of package-level variables. -/
import Derived.Test.YtljglhaeonbfoaaGreatDoorG9
import Derived.Test.YtljglhaeonbfoaaGreatDoorShelfB
import Derived.Lib.AppendIntMem
import Derived.BigGuardPart
import Derived.Test.YtljglhaeonbfoaaGreatDoorG5
set_option linter.unusedSimpArgs false
set_option linter.unusedVariables false
namespace Go.Proofs.YtljglhaeonbfoaaGreatDoor
open Go.RowKit
theorem gP10 : Tryz.prog.globalNamed "internal/strconv.uint64pow10" = some 0 := by kernel_rfl
def itoaB (n : Int) : ByteArray := ⟨(Lib.itoa n).toArray⟩
end Go.Proofs.YtljglhaeonbfoaaGreatDoor
namespace Go.Proofs.YtljglhaeonbfoaaGreatDoor
open Go.RowKit
structure VarsP (w : World) : Prop where
 v : Vars w
 p10 : Lib.TabIs Tryz.prog w "internal/strconv.uint64pow10" .u64 Lib.pow10Tab
theorem VarsP.keep {w w' : World} (h : VarsP w) (hs : w.heap.size ≤ w'.heap.size) (hk : ∀ b, b < 6 → w'.heap[b]? = w.heap[b]?) : VarsP w' := by
 refine ⟨h.v.keep hs hk, ?_⟩
 have := h.p10
 unfold Lib.TabIs World.var? at this ⊢
 rw [gP10] at this ⊢
 simp only [Option.bind_some] at this ⊢
 rw [hk _ (by show 0 < 6; omega)]; exact this
theorem VarsP.below {w w' : World} {B : Nat} (h : VarsP w) (hb : Below B w w') (hB : 6 ≤ B) : VarsP w' := h.keep hb.size fun b hb' => hb.block b (by omega)
theorem VarsP.ext {w : World} (h : VarsP w) (u : Ext) : VarsP (w.ext u) := h.below (Below.of_ext w u (Nat.le_refl _)) h.v.sz
theorem VarsP.alloc {w : World} (h : VarsP w) (ob : Obj) : VarsP (w.alloc ob) := h.below ((Below.refl _ _).alloc (Nat.le_refl _) ob) h.v.sz
theorem itoaP_any (n : Int) (hn : InI n) (w : World) (hv : VarsP w) : Calls Tryz.prog 33 #[.int .i64 n] w (RetX (.string (itoaB n)) w) := by
 refine (Tryz.strconv_Itoa n hn.1 hn.2 w hv.p10).mono ?_
 rintro e w' ⟨rfl, k, os, rfl⟩
 exact ⟨rfl, (Lib.below_grow _ w (Nat.le_refl _) k os).to_ext⟩
end Go.Proofs.YtljglhaeonbfoaaGreatDoor
