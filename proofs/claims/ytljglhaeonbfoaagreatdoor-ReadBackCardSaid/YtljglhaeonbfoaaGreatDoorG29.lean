/- law04: walks: the variable that is next. law04: walks: a variable is read. law04: walks: a number that an instruction has; a block's. -/
import Derived.Test.YtljglhaeonbfoaaGreatDoorG22
import Derived.Test.YtljglhaeonbfoaaGreatDoorG16
import Derived.Test.YtljglhaeonbfoaaGreatDoorG10
set_option linter.unusedSimpArgs false
set_option linter.unusedVariables false
namespace Go.Proofs.YtljglhaeonbfoaaGreatDoor
open Go.RowKit
section
variable {w : World} {S : Nat → Prop} {c : Nat} {s : Cur}
theorem cutV_sz (s : ByteArray) : (cutV s).size ≤ s.size := by
 unfold cutV Lib.trimPrefix
 split
 ·show (List.drop _ s.data.toList).toArray.size ≤ s.data.size
  simp
 ·exact Nat.le_refl _
abbrev rd4 (c : Nat) : Value := .agg #[.pointer (some ⟨c, 0, none⟩)]
theorem cutp_any (t : ByteArray) (w : World) : Calls Tryz.prog 136 #[.string t, .string ⟨#[118]⟩] w (Ret (.tuple #[.string (cutV t), .bool (Lib.hasPrefix t.data.toList [118])]) w) := by
 refine (Tryz.strings_CutPrefix t ⟨#[118]⟩ w).mono ?_
 rintro e w' ⟨rfl, rfl⟩
 exact ⟨rfl, rfl⟩
theorem extT4 {a b c : World} (h : ∃ u : Ext, b = a.ext u) (g : ∃ u : Ext, c = b.ext u) : ∃ u : Ext, c = a.ext u := by
 obtain ⟨u, rfl⟩ := h
 obtain ⟨v, rfl⟩ := g
 exact ext_ext _ _ _
set_option maxRecDepth 100000 in
set_option maxHeartbeats 8000000 in
theorem peeked_any (h : CurAt w S c s) (hv : VarsP w) (hd : Wd s) : Calls Tryz.prog 94 #[rd4 c] w (RetX (.int .i64 (vW (peekC s))) w) := by
 have hz : (cutV (peekC s)).size ≤ 1099511627770 := Nat.le_trans (cutV_sz _) hd.peek
 clear hd
 obtain ⟨W1, hW1⟩ : ∃ W1, w.alloc (.cells #[.pointer (some ⟨c, 0, none⟩)] 77) = W1 := ⟨_, rfl⟩
 have h1 : CurAt W1 S c s := by rw [← hW1]; exact h.alloc _
 have hv1 : VarsP W1 := by rw [← hW1]; exact hv.alloc _
 have HX := hide (show ∃ u : Ext, W1 = w.ext u by rw [← hW1]; exact ext_alloc _ _)
 have k0 : W1.cell? ⟨w.heap.size, 0, none⟩ = some (.pointer (some ⟨c, 0, none⟩)) := by rw [← hW1]; exact cell_of_row _ _ _ _ _ (0, 0) (heap_alloc_new w _)
 have hsz : w.heap.size < W1.heap.size := by rw [← hW1]; simp
 have HP := hide (cPeek h1)
 have hc := vW_code (peekC s)
 generalize peekC s = t at HP hc hz ⊢
 have HC := hide (cutp_any t W1)
 generalize Lib.hasPrefix t.data.toList [118] = is at HC hc
 generalize cutV t = d at HC hc hz
 generalize vW t = r at hc ⊢
 clear h h1 hv
 cases ho : numOk d with
 | false =>
  have HA := hide (atoi_no d W1 (by omega) hv1.v ho)
  have hr : r = 0 := by rw [hc, if_neg]; rintro ⟨_, h2, _⟩; rw [ho] at h2; cases h2
  subst hr
  clear hc ho
  generalize numN d = n at HA
  cases is
  all_goals
   go_enter Tryz.func94, Tryz.ntmps94
   go_wp2_with (first | (go_at_call 137; (with_reducible refine HP.out.mono ?_); rintro e w2 ⟨rfl, rfl⟩) | (go_at_call 136; (with_reducible refine HC.out.mono ?_); rintro e w2 ⟨rfl, rfl⟩) | (go_at_call 138; (with_reducible refine HA.out.mono ?_); rintro e w2 ⟨N, rfl, u, rfl⟩))
   go_ret
   exact ⟨rfl, extT4 HX.out ⟨u, rfl⟩⟩
 | true =>
  have HA := hide (atoi_ok d W1 (by omega) ho)
  have hn : InI (numN d) := numN_in d
  generalize numN d = n at HA hc hn
  have HI := hide (fun u : Ext => itoaP_any n hn (W1.ext u) (hv1.ext u))
  have HO := hide ho
  clear ho hn hv1
  have HC0 := hide hc
  clear hc
  cases is with
  | false =>
   have hr : r = 0 := by rw [HC0.out, if_neg]; rintro ⟨h2, _⟩; cases h2
   subst hr
   clear HC0
   go_enter Tryz.func94, Tryz.ntmps94
   go_wp2_with (first | (go_at_call 137; (with_reducible refine HP.out.mono ?_); rintro e w2 ⟨rfl, rfl⟩) | (go_at_call 136; (with_reducible refine HC.out.mono ?_); rintro e w2 ⟨rfl, rfl⟩) | (go_at_call 138; (with_reducible refine HA.out.mono ?_); rintro e w2 ⟨rfl, u, rfl⟩))
   go_ret
   exact ⟨rfl, extT4 HX.out ⟨u, rfl⟩⟩
  | true =>
   by_cases h1 : n < 1
   ·have hr : r = 0 := by rw [HC0.out, if_neg]; rintro ⟨_, _, h2, _⟩; omega
    subst hr
    clear HC0
    go_enter Tryz.func94, Tryz.ntmps94
    go_wp2_with (first | (go_at_call 137; (with_reducible refine HP.out.mono ?_); rintro e w2 ⟨rfl, rfl⟩) | (go_at_call 136; (with_reducible refine HC.out.mono ?_); rintro e w2 ⟨rfl, rfl⟩) | (go_at_call 138; (with_reducible refine HA.out.mono ?_); rintro e w2 ⟨rfl, u, rfl⟩))
    go_ret
    exact ⟨rfl, extT4 HX.out ⟨u, rfl⟩⟩
   ·by_cases h2 : 200 < n
    ·have hr : r = 0 := by rw [HC0.out, if_neg]; rintro ⟨_, _, _, h2, _⟩; omega
     subst hr
     clear HC0
     go_enter Tryz.func94, Tryz.ntmps94
     go_wp2_with (first | (go_at_call 137; (with_reducible refine HP.out.mono ?_); rintro e w2 ⟨rfl, rfl⟩) | (go_at_call 136; (with_reducible refine HC.out.mono ?_); rintro e w2 ⟨rfl, rfl⟩) | (go_at_call 138; (with_reducible refine HA.out.mono ?_); rintro e w2 ⟨rfl, u, rfl⟩))
     go_ret
     exact ⟨rfl, extT4 HX.out ⟨u, rfl⟩⟩
    ·by_cases h3 : itoaB n = d
     ·have hr : r = n := by rw [HC0.out, if_pos ⟨rfl, HO.out, by omega, by omega, h3⟩]
      subst hr
      clear HC0
      subst h3
      have b1 : decide (r < 1) = false := decide_eq_false h1
      have b2 : decide (200 < r) = false := decide_eq_false h2
      have b3 : decide (r > 200) = false := decide_eq_false h2
      go_enter Tryz.func94, Tryz.ntmps94
      go_wp2_with (first | (go_at_call 137; (with_reducible refine HP.out.mono ?_); rintro e w2 ⟨rfl, rfl⟩) | (go_at_call 136; (with_reducible refine HC.out.mono ?_); rintro e w2 ⟨rfl, rfl⟩) | (go_at_call 138; (with_reducible refine HA.out.mono ?_); rintro e w2 ⟨rfl, u, rfl⟩) | (go_at_call 33; (with_reducible refine (HI.out _).mono ?_); rintro e w2 ⟨rfl, v, rfl⟩))
      go_ret
      exact ⟨rfl, extT4 HX.out (ext_ext _ _ _)⟩
     ·have hr : r = 0 := by rw [HC0.out, if_neg]; rintro ⟨_, _, _, _, h⟩; exact h3 h
      subst hr
      clear HC0
      have b1 : decide (n < 1) = false := decide_eq_false h1
      have b2 : decide (200 < n) = false := decide_eq_false h2
      have b3 : decide (n > 200) = false := decide_eq_false h2
      have b4 : ((itoaB n).toList == d.toList) = false := by
       rw [ByteArray.toList_eq, ByteArray.toList_eq]
       simp only [beq_eq_false_iff_ne, ne_eq]
       exact fun e => h3 (bytes_ext e)
      have b5 : (!((itoaB n).toList == d.toList)) = true := by rw [b4]; rfl
      go_enter Tryz.func94, Tryz.ntmps94
      go_wp2_with (first | (go_at_call 137; (with_reducible refine HP.out.mono ?_); rintro e w2 ⟨rfl, rfl⟩) | (go_at_call 136; (with_reducible refine HC.out.mono ?_); rintro e w2 ⟨rfl, rfl⟩) | (go_at_call 138; (with_reducible refine HA.out.mono ?_); rintro e w2 ⟨rfl, u, rfl⟩) | (go_at_call 33; (with_reducible refine (HI.out _).mono ?_); rintro e w2 ⟨rfl, v, rfl⟩))
      go_ret
      exact ⟨rfl, extT4 HX.out (ext_ext _ _ _)⟩
end
end Go.Proofs.YtljglhaeonbfoaaGreatDoor
namespace Go.Proofs.YtljglhaeonbfoaaGreatDoor
open Go.RowKit
section
variable {w : World} {S : Nat → Prop} {c : Nat} {s : Cur}
set_option maxRecDepth 100000 in
set_option maxHeartbeats 8000000 in
theorem variable_any (h : CurAt w S c s) (hv : VarsP w) (hd : Wd s) : Calls Tryz.prog 95 #[rd4 c] w (CurP S c w (varC s).2 (.int .i64 (varC s).1)) := by
 obtain ⟨W1, hW1⟩ : ∃ W1, w.alloc (.cells #[.pointer (some ⟨c, 0, none⟩)] 77) = W1 := ⟨_, rfl⟩
 have h1 : CurAt W1 S c s := by rw [← hW1]; exact h.alloc _
 have hv1 : VarsP W1 := by rw [← hW1]; exact hv.alloc _
 have HO1 := hide (show Only c w W1 by rw [← hW1]; exact (Only.refl c w).alloc _)
 have k0 : W1.cell? ⟨w.heap.size, 0, none⟩ = some (.pointer (some ⟨c, 0, none⟩)) := by rw [← hW1]; exact cell_of_row _ _ _ _ _ (0, 0) (heap_alloc_new w _)
 have hsz : w.heap.size < W1.heap.size := by rw [← hW1]; simp
 have HP := hide (peeked_any h1 hv1 hd)
 have HF := hide (fun u : Ext => cFail (h1.ext u) 7)
 have HN := hide (fun u : Ext => cName (h1.ext u))
 have HE := hide (fun u : Ext => (show Only c W1 (W1.ext u) from (Only.refl c W1).ext u))
 have he : varC s = if vW (peekC s) = 0 then (0, failC 7 s) else (vW (peekC s), (nameC s).2) := rfl
 rw [he]
 clear he hd hv hv1 h h1
 generalize vW (peekC s) = v at HP ⊢
 by_cases h0 : v = 0
 ·subst h0
  rw [if_pos rfl]
  go_enter Tryz.func95, Tryz.ntmps95
  go_wp2_with (first | (go_at_call 94; (with_reducible refine HP.out.mono ?_); rintro e w2 ⟨rfl, u, rfl⟩) | (go_at_call 40; (with_reducible refine (HF.out _).mono ?_); rintro e w2 ⟨rfl, hat, hon⟩))
  go_ret
  exact ⟨rfl, hat, (HO1.out.trans (HE.out _)).trans hon⟩
 ·rw [if_neg h0]
  go_enter Tryz.func95, Tryz.ntmps95
  go_wp2_with (first | (go_at_call 94; (with_reducible refine HP.out.mono ?_); rintro e w2 ⟨rfl, u, rfl⟩) | (go_at_call 139; (with_reducible refine (HN.out _).mono ?_); rintro e w2 ⟨rfl, hat, hon⟩))
  go_ret
  exact ⟨rfl, hat, (HO1.out.trans (HE.out _)).trans hon⟩
end
end Go.Proofs.YtljglhaeonbfoaaGreatDoor
namespace Go.Proofs.YtljglhaeonbfoaaGreatDoor
open Go.RowKit
section
variable {w : World} {S : Nat → Prop} {c : Nat} {s : Cur}
set_option maxRecDepth 100000 in
set_option maxHeartbeats 8000000 in
theorem imm_any (h : CurAt w S c s) : Calls Tryz.prog 179 #[rd4 c] w (CurP S c w (immC s).2 (.int .i64 (immC s).1)) := by
 obtain ⟨W1, hW1⟩ : ∃ W1, w.alloc (.cells #[.pointer (some ⟨c, 0, none⟩)] 77) = W1 := ⟨_, rfl⟩
 have h1 : CurAt W1 S c s := by rw [← hW1]; exact h.alloc _
 have HO1 := hide (show Only c w W1 by rw [← hW1]; exact (Only.refl c w).alloc _)
 have k0 : W1.cell? ⟨w.heap.size, 0, none⟩ = some (.pointer (some ⟨c, 0, none⟩)) := by rw [← hW1]; exact cell_of_row _ _ _ _ _ (0, 0) (heap_alloc_new w _)
 have hsz : w.heap.size < W1.heap.size := by rw [← hW1]; simp
 have HN := hide (cNum h1 (-1099511627776) 1099511627776)
 clear h h1
 go_enter Tryz.func179, Tryz.ntmps179
 go_wp2_with (go_at_call 97; (with_reducible refine HN.out.mono ?_); rintro e w2 ⟨rfl, hat, hon⟩)
 go_ret
 exact ⟨rfl, hat, HO1.out.trans hon⟩
set_option maxRecDepth 100000 in
set_option maxHeartbeats 8000000 in
theorem blockN_any (h : CurAt w S c s) : Calls Tryz.prog 141 #[rd4 c] w (CurP S c w (numC 0 63 s).2 (.int .i64 (numC 0 63 s).1)) := by
 obtain ⟨W1, hW1⟩ : ∃ W1, w.alloc (.cells #[.pointer (some ⟨c, 0, none⟩)] 77) = W1 := ⟨_, rfl⟩
 have h1 : CurAt W1 S c s := by rw [← hW1]; exact h.alloc _
 have HO1 := hide (show Only c w W1 by rw [← hW1]; exact (Only.refl c w).alloc _)
 have k0 : W1.cell? ⟨w.heap.size, 0, none⟩ = some (.pointer (some ⟨c, 0, none⟩)) := by rw [← hW1]; exact cell_of_row _ _ _ _ _ (0, 0) (heap_alloc_new w _)
 have hsz : w.heap.size < W1.heap.size := by rw [← hW1]; simp
 have HN := hide (cNum h1 0 63)
 clear h h1
 go_enter Tryz.func141, Tryz.ntmps141
 go_wp2_with (go_at_call 97; (with_reducible refine HN.out.mono ?_); rintro e w2 ⟨rfl, hat, hon⟩)
 go_ret
 exact ⟨rfl, hat, HO1.out.trans hon⟩
end
end Go.Proofs.YtljglhaeonbfoaaGreatDoor
