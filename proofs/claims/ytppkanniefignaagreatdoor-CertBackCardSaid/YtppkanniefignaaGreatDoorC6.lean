/- law28: walks: the reader: unless, its closure, which of the kinds is next. -/
import Derived.Test.YtppkanniefignaaGreatDoorG34
import Derived.Test.YtppkanniefignaaGreatDoorG35
import Derived.Test.YtppkanniefignaaGreatDoorG2
set_option linter.unusedSimpArgs false
set_option linter.unusedVariables false
namespace Go.Proofs.YtppkanniefignaaGreatDoor
open Go.RowKit Go.Maps

section
variable {w : World} {S : Nat → Prop} {c : Nat} {s : Cur}
abbrev rdV (c nb : Nat) : Value := .agg #[.pointer (some ⟨c, 0, none⟩), .map (some nb)]
set_option maxRecDepth 100000 in
set_option maxHeartbeats 4000000 in
theorem unless28_any (h : CurAt w S c s) (nb : Nat) (b : Bool) (x : Int) : Calls Tryz.prog 31 #[rdV c nb, .bool b, .int .i64 x] w (CurP S c w (unlessC b x s) (.tuple #[])) := by
  obtain ⟨W1, hW1⟩ : ∃ W1, w.alloc (.cells #[.pointer (some ⟨c, 0, none⟩), .map (some nb)] 62) = W1 := ⟨_, rfl⟩
  have h1 : CurAt W1 S c s := by rw [← hW1]; exact h.alloc _
  have HO1 := hide (show Only c w W1 by rw [← hW1]; exact (Only.refl c w).alloc _)
  have k0 : W1.cell? ⟨w.heap.size, 0, none⟩ = some (.pointer (some ⟨c, 0, none⟩)) := by rw [← hW1]; exact cell_of_row _ _ _ _ _ (0, 0) (heap_alloc_new w _)
  have hsz : w.heap.size < W1.heap.size := by rw [← hW1]; simp
  have HF := hide (cFail h1 x)
  have HC1 := hide h1
  clear h1 h
  cases b with
  | true =>
    have e : unlessC true x s = s := rfl
    rw [e]
    clear e
    go_enter Tryz.func31, Tryz.ntmps31
    go_wp2_with fail
    go_end0
    exact ⟨rfl, HC1.out, HO1.out⟩
  | false =>
    have e : unlessC false x s = failC x s := rfl
    rw [e]
    clear e
    go_enter Tryz.func31, Tryz.ntmps31
    go_wp2_with (go_at_call 71; (with_reducible refine HF.out.mono ?_); rintro e w2 ⟨rfl, hat, hon⟩)
    go_end0
    exact ⟨rfl, hat, HO1.out.trans hon⟩
set_option maxRecDepth 100000 in
set_option maxHeartbeats 4000000 in
theorem keyf28_any (h : CurAt w S c s) (g : Nat) (hg : w.cell? ⟨g, 0, none⟩ = some (.pointer (some ⟨c, 0, none⟩))) (hgl : g < w.heap.size) (t : ByteArray) : Calls Tryz.prog 74 #[.string t, .pointer (some ⟨g, 0, none⟩)] w (CurP S c w (overC (isC (.nm t) s) s) (.bool (isC (.nm t) s))) := by
  have HK := hide (cKey h t)
  generalize isC (.nm t) s = b at HK ⊢
  clear h
  go_enter Tryz.func74, Tryz.ntmps74
  go_wp2_with (go_at_call 30; (with_reducible refine HK.out.mono ?_); rintro e w2 ⟨rfl, hat, hon⟩)
  go_ret
  exact ⟨rfl, hat, hon⟩
theorem kindC_cons (t : ByteArray) (l : List ByteArray) (k : Nat) (s : Cur) : kindC (t :: l) k s = if isC (.nm t) s = true then (k, popC s) else kindC l (k + 1) s := rfl
set_option maxRecDepth 100000 in
set_option maxHeartbeats 8000000 in
theorem idx28_any (h : CurAt w S c s) (g : Nat) (hg : w.cell? ⟨g, 0, none⟩ = some (.pointer (some ⟨c, 0, none⟩))) (hgl : g < w.heap.size) (hgc : g ≠ c) (S2 : Nat → Prop) (A : Option Addr) (n k0 : Nat) (ts : List ByteArray) (hs : Sl w S2 A n k0 ts) (hS2 : ¬ S2 c) (hn : n ≤ 1000) :
    Calls Tryz.prog 72 #[.slice A n k0, .func (.func 74) #[] #[.pointer (some ⟨g, 0, none⟩)]] w (CurP S c w (kindC ts 1 s).2 (.int .i64 (((kindC ts 1 s).1 : Int) - 1))) := by
  have HC := hide h; have HS := hide hs; have HL := hide hs.len
  have HG := hide hg
  clear h hs hg
  obtain ⟨R, hR⟩ : ∃ R, kindC ts 1 s = R := ⟨_, rfl⟩
  rw [hR]
  have HR0 := hide (show kindC (ts.drop 0) (0 + 1) s = R from hR)
  clear hR
  go_enter Tryz.func72, Tryz.ntmps72
  go_wp2_with fail
  go_loopw [8] (fun i wr => ∃ k : Nat, k ≤ n ∧ i = .int .i64 k ∧ kindC (ts.drop k) (k + 1) s = R ∧ CurAt wr S c s ∧ Only c w wr) (fun i _ => n - (intOf i).toNat)
  case atStart => exact ⟨0, Nat.zero_le _, rfl, HR0.out, HC.out, Only.refl _ _⟩
  case round =>
    obtain ⟨k, hk, rfl, hr, hat, hon⟩ := hrel
    have HR := hide hr; have HAT := hide hat; have HON := hide hon
    clear hr hat
    have hsz := hon.size
    have hgw : wr.cell? ⟨g, 0, none⟩ = some (.pointer (some ⟨c, 0, none⟩)) := (World.cell?_of_block (hon.block g hgl hgc)).trans HG.out
    have hgl2 : g < wr.heap.size := by omega
    by_cases hlt : k < n
    · obtain ⟨b, off, x, rfl, hb, hx, _, c0⟩ := at_strB (hon.sl HS.out hS2) hlt
      have HX := hide (drop_at hx)
      have HKF := hide (keyf28_any HAT.out g hgw hgl2 x)
      clear hx hon hgw
      have hki : (k : Int) < n := by omega
      cases hb2 : isC (.nm x) s with
      | true =>
        rw [hb2] at HKF
        have HE := hide (show R = (k + 1, popC s) by rw [← HR.out, HX.out, kindC_cons, if_pos hb2])
        clear hb2
        go_wp2_with (go_at_call 74; (with_reducible refine HKF.out.mono ?_); rintro e w2 ⟨rfl, hat2, hon2⟩; have HA2 := hide hat2; have HO2 := hide hon2; clear hat2 hon2)
        go_ret
        rw [HE.out]
        refine ⟨?_, HA2.out, HON.out.trans HO2.out⟩
        show Ending.returned (.int .i64 (k : Int)) = Ending.returned (.int .i64 (((k + 1 : Nat) : Int) - 1))
        rw [show ((k + 1 : Nat) : Int) - 1 = (k : Int) by omega]
      | false =>
        rw [hb2] at HKF
        have HE := hide (show kindC (ts.drop (k + 1)) (k + 1 + 1) s = R by rw [← HR.out, HX.out, kindC_cons, if_neg (by rw [hb2]; decide)])
        clear hb2
        go_wp2_with (go_at_call 74; (with_reducible refine HKF.out.mono ?_); rintro e w2 ⟨rfl, hat2, hon2⟩; have HA2 := hide hat2; have HO2 := hide hon2; clear hat2 hon2)
        go_roundw
        case rel => exact ⟨k + 1, by omega, by go_num, HE.out, HA2.out, HON.out.trans HO2.out⟩
        case measure => simp [intOf]; omega
    · have hlf : decide ((k : Int) < n) = false := by simp; omega
      have HE := hide (show R = (0, s) by rw [← HR.out, drop_end HL.out hlt]; rfl)
      clear hon hgw
      go_wp2_with fail
      go_ret
      rw [HE.out]
      exact ⟨rfl, HAT.out, HON.out⟩
theorem kinds28_any (w : World) : Calls Tryz.prog 73 #[] w (fun e w' => ∃ A, e = .returned (.slice A 4 4) ∧ Sl w' (fun b => w.heap.size ≤ b) A 4 4 kindsB ∧ ∃ u, w' = w.ext u) := by
  go_enter Tryz.func73, Tryz.ntmps73
  go_wp2_with fail
  go_ret
  refine ⟨_, rfl, Sl.lit (S := fun _ => False) (us := kindsB.map Value.string) rfl ?_ rfl (by decide) (fun _ h => h.elim) (Nat.le_refl _), Below.to_ext ((Below.refl _ _).alloc (Nat.le_refl _) _)⟩
  have key : ∀ l : List ByteArray, (∀ t ∈ l, t.size ≤ maxLen) → RepL w (fun _ => False) l (l.map Value.string) := by
    intro l
    induction l with
    | nil => intro _; rfl
    | cons x l ih => intro h; exact ⟨[.string x], l.map Value.string, rfl, ⟨rfl, h x List.mem_cons_self⟩, ih fun t ht => h t (List.mem_cons_of_mem _ ht)⟩
  refine key _ ?_
  intro t ht
  simp only [kindsB, List.mem_cons, List.not_mem_nil, or_false] at ht
  rcases ht with rfl | rfl | rfl | rfl <;> (unfold maxLen; decide)
end
end Go.Proofs.YtppkanniefignaaGreatDoor
