/- Which words may be shown: the program's and the document's right. -/
import Derived.Test.YtmlopggainkoiaaDoorRG3
import Derived.Test.YtmlopggainkoiaaDoorShelfB
import Derived.Lib.AppendIntMem
import Derived.BigGuardPart
set_option linter.unusedSimpArgs false
set_option linter.unusedVariables false
namespace Go.Proofs.YtmlopggainkoiaaDoor
open Go.RowKit

/-- What showing reads of package-level variables. -/
structure VarsS (w : World) : Prop where
  v : Vars w
  p10 : Lib.TabIs Tryd.prog w "internal/strconv.uint64pow10" .u64 Lib.pow10Tab
  u8 : Lib.Utf8Tabs 0 1 w
theorem gP10 : Tryd.prog.globalNamed "internal/strconv.uint64pow10" = some 4 := by kernel_rfl
theorem VarsS.keep {w w' : World} (h : VarsS w) (hs : w.heap.size ≤ w'.heap.size) (hk : ∀ b, b < 7 → w'.heap[b]? = w.heap[b]?) : VarsS w' := by
  refine ⟨h.v.keep hs hk, ?_, fun c hc => ?_, fun i hi => ⟨?_, ?_⟩⟩
  · have := h.p10
    unfold Lib.TabIs World.var? at this ⊢
    rw [gP10] at this ⊢
    simp only [Option.bind_some] at this ⊢
    rw [hk _ (by show 4 < 7; omega)]; exact this
  · exact (World.cell?_of_block (hk _ (by show 0 < 7; omega))).trans (h.u8.1 c hc)
  · exact (World.cell?_of_block (hk _ (by show 1 < 7; omega))).trans (h.u8.2 i hi).1
  · exact (World.cell?_of_block (hk _ (by show 1 < 7; omega))).trans (h.u8.2 i hi).2
theorem VarsS.below {w w' : World} {B : Nat} (h : VarsS w) (hb : Below B w w') (hB : 7 ≤ B) : VarsS w' := h.keep hb.size fun b hb' => hb.block b (by omega)
theorem VarsS.ext {w : World} (h : VarsS w) (u : Ext) : VarsS (w.ext u) := h.below (Below.of_ext w u (Nat.le_refl _)) h.v.sz
theorem VarsS.alloc {w : World} (h : VarsS w) (ob : Obj) : VarsS (w.alloc ob) := h.below ((Below.refl _ _).alloc (Nat.le_refl _) ob) h.v.sz
def itoaB (n : Int) : ByteArray := ⟨(Lib.itoa n).toArray⟩
theorem itoa_any (n : Int) (hn : InI n) (w : World) (hv : VarsS w) : Calls Tryd.prog 90 #[.int .i64 n] w (RetX (.string (itoaB n)) w) := by
  refine (Tryd.strconv_Itoa n hn.1 hn.2 w hv.p10).mono ?_
  rintro e w' ⟨rfl, k, os, rfl⟩
  exact ⟨rfl, (Lib.below_grow _ w (Nat.le_refl _) k os).to_ext⟩
/-- The rune that a text begins with, and how many bytes it has, as the library decodes it. -/
theorem dec_any (s : ByteArray) (w : World) (hv : VarsS w) : Calls Tryd.prog 91 #[.string s] w (RetX (.tuple #[.int .i32 (Lib.decodeGo s).1, .int .i64 (Lib.decodeGo s).2]) w) := by
  refine (Tryd.utf8_DecodeRuneInString s w hv.u8).mono ?_
  rintro e w' ⟨rfl, hb⟩
  exact ⟨rfl, hb.to_ext⟩
/-- Is a text just one sign? -/
def sgnT (t : ByteArray) : Bool := match items t 0 with
  | [c] => isS c
  | _ => false
theorem sgn_go (t : ByteArray) : (decide ((Lib.decodeGo t).2 = t.size) && isS (Lib.decodeGo t).1) = sgnT t := by
  unfold sgnT Lib.decodeGo
  by_cases h0 : t.size = 0
  · rw [if_pos h0, items_end (by omega)]; simp
    intro _
    decide
  · rw [if_neg h0]
    have hp : 0 < t.size := by omega
    cases hg : goodAt t 0 with
    | false =>
      rw [items_bad hp hg]
      have hr : (Utf8.decode t 0).1 = 65533 := Classical.byContradiction fun h => by rw [good_not h] at hg; cases hg
      rw [hr]
      have e : isS ((65533 : Nat) : Int) = false := by decide
      rw [e, Bool.and_false]; decide
    | true =>
      rw [items_good hp hg, Nat.zero_add]
      by_cases he : (Utf8.decode t 0).2 = t.size
      · rw [he, items_end (by omega)]; simp
      · have hw := width_le hp
        obtain ⟨c, l, hi⟩ := items_ne (s := t) (i := (Utf8.decode t 0).2) (by omega)
        rw [hi]; simp [he]
theorem sgn_at (t : ByteArray) : (decide (0 < (atR t 0).2) && decide ((atR t 0).2 = t.size) && isS (atR t 0).1) = sgnT t := by
  rw [← sgn_go]
  unfold Lib.decodeGo
  by_cases h0 : t.size = 0
  · rw [if_pos h0, atR_out (by omega)]; simp; intro _; decide
  · rw [if_neg h0]
    have hp : 0 < t.size := by omega
    have hw := Lib.decode_width_pos t 0 hp
    cases hg : goodAt t 0 with
    | true => rw [atR_good hp hg, show decide (0 < (Utf8.decode t 0).2) = true by simp; omega, Bool.true_and]
    | false =>
      rw [atR_bad hg]
      have hr : (Utf8.decode t 0).1 = 65533 := Classical.byContradiction fun h => by rw [good_not h] at hg; cases hg
      rw [hr]
      have e : isS ((65533 : Nat) : Int) = false := by decide
      rw [e]; simp
/-- Which words may be shown. -/
def rightW (x : Word) : Bool :=
  if x.kind = 1 then x.n == 0 && isNameR 0 (items x.text 0)
  else if x.kind = 2 then decide (-1099511627776 ≤ x.n) && decide (x.n ≤ 1099511627776) && (x.text.toList == (itoaB x.n).toList)
  else if x.kind = 3 then x.n == 0 && sgnT x.text
  else x.kind == 4 && x.n == 0 && x.text.toList.isEmpty

set_option maxRecDepth 100000 in
set_option maxHeartbeats 8000000 in
theorem right_any (x : Word) (w : World) (hv : VarsS w) (hn : InI x.n) (hs : x.text.size ≤ 17179869184) : Calls Tryd.prog 55 #[.agg #[.int .i64 x.kind, .string x.text, .int .i64 x.n, .int .i64 x.line, .int .i64 x.col]] w (RetX (.bool (rightW x)) w) := by
  have HV := hide hv; have HN := hide hn; clear hv hn
  obtain ⟨k, t, n, line, col⟩ := x
  simp only at HN hs
  have HV1 := hide (HV.out.alloc (.cells #[.int .i64 k, .string t, .int .i64 n, .int .i64 line, .int .i64 col] 31))
  have HNM := hide (fun W => isName_any t W hs)
  by_cases h1 : k = 1
  · subst h1
    cases h0 : (n == 0)
    · have e : rightW ⟨1, t, n, line, col⟩ = false := by unfold rightW; simp only [if_true, h0, Bool.false_and]
      rw [e]; clear e
      go_enter Tryd.func55, Tryd.ntmps55
      go_wp2_with (first | (go_at_call 17; refine (HNM.out _).mono ?_; rintro e _ ⟨rfl, u1, rfl⟩))
      go_ret
      exact RetX.b rfl ((Below.refl _ _).alloc (Nat.le_refl _) _)
    · have e : rightW ⟨1, t, n, line, col⟩ = isNameR 0 (items t 0) := by unfold rightW; simp only [if_true, h0, Bool.true_and]
      rw [e]; clear e
      obtain ⟨B, hB⟩ : ∃ B, isNameR 0 (items t 0) = B := ⟨_, rfl⟩
      rw [hB] at HNM ⊢; clear hB
      go_enter Tryd.func55, Tryd.ntmps55
      go_wp2_with (first | (go_at_call 17; refine (HNM.out _).mono ?_; rintro e _ ⟨rfl, u1, rfl⟩))
      go_ret
      exact RetX.b rfl (((Below.refl _ _).alloc (Nat.le_refl _) _).ext (by simp) u1)
  have k1 : (k == 1) = false := by simpa using h1
  by_cases h2 : k = 2
  · subst h2
    have e : rightW ⟨2, t, n, line, col⟩ = (decide (-1099511627776 ≤ n) && decide (n ≤ 1099511627776) && (t.toList == (itoaB n).toList)) := by unfold rightW; rw [if_neg (by decide : ¬ (2 : Int) = 1), if_pos rfl]
    rw [e]; clear e h1
    have HIT := hide (fun W (h : VarsS W) => itoa_any n HN.out W h)
    obtain ⟨q, hq⟩ : ∃ q, (t.toList == (itoaB n).toList) = q := ⟨_, rfl⟩
    rw [hq]
    obtain ⟨ib, hib⟩ : ∃ ib, itoaB n = ib := ⟨_, rfl⟩
    rw [hib] at HIT hq; clear hib
    by_cases hlo : -1099511627776 ≤ n
    · by_cases hhi : n ≤ 1099511627776
      · have hb : (decide (-1099511627776 ≤ n) && decide (n ≤ 1099511627776) && q) = q := by simp [hlo, hhi]
        rw [hb]; clear hb
        go_enter Tryd.func55, Tryd.ntmps55
        go_wp2_with (first | (go_at_call 17; refine (HNM.out _).mono ?_; rintro e _ ⟨rfl, u1, rfl⟩))
        refine wp_region_ext (by kernel_rfl) (by kernel_rfl) ?_
        repeat (any_goals (first | go_big_quiet_step (((go_at_call 90; exact quiet_retx (HIT.out _ (HV1.out.ext _))))) | quiet_step (((go_at_call 90; exact quiet_retx (HIT.out _ (HV1.out.ext _)))))))
        refine wpQuiet_nil ?_
        rintro _ ⟨uq, rfl⟩
        go_wp2_with fail
        go_ret
        exact RetX.b rfl (((Below.refl _ _).alloc (Nat.le_refl _) _).ext (by simp) _)
      · have hb : (decide (-1099511627776 ≤ n) && decide (n ≤ 1099511627776) && q) = false := by simp [hhi]
        rw [hb]; clear hb
        have d1 : decide (-1099511627776 ≤ n) = true := by simp [hlo]
        have d2 : decide (n ≤ 1099511627776) = false := by simp [hhi]
        clear hq
        go_enter Tryd.func55, Tryd.ntmps55
        go_wp2_with (first | (go_at_call 17; refine (HNM.out _).mono ?_; rintro e _ ⟨rfl, u1, rfl⟩))
        refine wp_region_ext (by kernel_rfl) (by kernel_rfl) ?_
        repeat (any_goals (first | go_big_quiet_step (((go_at_call 90; exact quiet_retx (HIT.out _ (HV1.out.ext _))))) | quiet_step (((go_at_call 90; exact quiet_retx (HIT.out _ (HV1.out.ext _)))))))
        refine wpQuiet_nil ?_
        rintro _ ⟨uq, rfl⟩
        go_wp2_with fail
        go_ret
        exact RetX.b rfl (((Below.refl _ _).alloc (Nat.le_refl _) _).ext (by simp) _)
    · have hb : (decide (-1099511627776 ≤ n) && decide (n ≤ 1099511627776) && q) = false := by simp [hlo]
      rw [hb]; clear hb
      have d1 : decide (-1099511627776 ≤ n) = false := by simp [hlo]
      clear hq
      go_enter Tryd.func55, Tryd.ntmps55
      go_wp2_with (first | (go_at_call 17; refine (HNM.out _).mono ?_; rintro e _ ⟨rfl, u1, rfl⟩))
      refine wp_region_ext (by kernel_rfl) (by kernel_rfl) ?_
      repeat (any_goals (first | go_big_quiet_step (((go_at_call 90; exact quiet_retx (HIT.out _ (HV1.out.ext _))))) | quiet_step (((go_at_call 90; exact quiet_retx (HIT.out _ (HV1.out.ext _)))))))
      refine wpQuiet_nil ?_
      rintro _ ⟨uq, rfl⟩
      go_wp2_with fail
      go_ret
      exact RetX.b rfl (((Below.refl _ _).alloc (Nat.le_refl _) _).ext (by simp) _)
  have k2 : (k == 2) = false := by simpa using h2
  by_cases h3 : k = 3
  · subst h3
    have e : rightW ⟨3, t, n, line, col⟩ = (n == 0 && sgnT t) := by unfold rightW; rw [if_neg (by decide : ¬ (3 : Int) = 1), if_neg (by decide : ¬ (3 : Int) = 2), if_pos rfl]
    rw [e]; clear e h1 h2
    have HD := hide (fun W (h : VarsS W) => dec_any t W h)
    have hsg := sgn_go t
    obtain ⟨⟨c, m⟩, hcm⟩ : ∃ cm, Lib.decodeGo t = cm := ⟨_, rfl⟩
    rw [hcm] at HD hsg; clear hcm
    rw [← hsg]; clear hsg
    cases h0 : (n == 0)
    · have hb : ∀ b : Bool, (false && b) = false := fun _ => rfl
      rw [hb]; clear hb
      go_enter Tryd.func55, Tryd.ntmps55
      go_wp2_with (first | (go_at_call 17; refine (HNM.out _).mono ?_; rintro e _ ⟨rfl, u1, rfl⟩) | (go_at_call 91; refine (HD.out _ HV1.out).mono ?_; rintro e _ ⟨rfl, u2, rfl⟩) | (go_at_call 24; (with_reducible refine (sign_any _ _).mono ?_); rintro e w' ⟨rfl, rfl⟩))
      go_ret
      exact RetX.b rfl (((Below.refl _ _).alloc (Nat.le_refl _) _).ext (by simp) u2)
    · by_cases hm : m = t.size
      · have hmb : ((m : Int) == (t.size : Int)) = true := by simp [hm]
        have hmn : decide (m = t.size) = true := by simp [hm]
        rw [hmn]
        clear hm hmn
        go_enter Tryd.func55, Tryd.ntmps55
        go_wp2_with (first | (go_at_call 17; refine (HNM.out _).mono ?_; rintro e _ ⟨rfl, u1, rfl⟩) | (go_at_call 91; refine (HD.out _ HV1.out).mono ?_; rintro e _ ⟨rfl, u2, rfl⟩) | (go_at_call 24; (with_reducible refine (sign_any _ _).mono ?_); rintro e w' ⟨rfl, rfl⟩))
        go_ret
        exact RetX.b rfl (((Below.refl _ _).alloc (Nat.le_refl _) _).ext (by simp) u2)
      · have hmb : ((m : Int) == (t.size : Int)) = false := by simp; omega
        have hmn : decide (m = t.size) = false := by simp [hm]
        rw [hmn]
        clear hm hmn
        go_enter Tryd.func55, Tryd.ntmps55
        go_wp2_with (first | (go_at_call 17; refine (HNM.out _).mono ?_; rintro e _ ⟨rfl, u1, rfl⟩) | (go_at_call 91; refine (HD.out _ HV1.out).mono ?_; rintro e _ ⟨rfl, u2, rfl⟩) | (go_at_call 24; (with_reducible refine (sign_any _ _).mono ?_); rintro e w' ⟨rfl, rfl⟩))
        go_ret
        exact RetX.b rfl (((Below.refl _ _).alloc (Nat.le_refl _) _).ext (by simp) u2)
  have k3 : (k == 3) = false := by simpa using h3
  have e : rightW ⟨k, t, n, line, col⟩ = (k == 4 && n == 0 && t.toList.isEmpty) := by unfold rightW; rw [if_neg h1, if_neg h2, if_neg h3]
  rw [e]; clear e h1 h2 h3
  cases k4 : (k == 4)
  · have hb : ∀ b c : Bool, (false && b && c) = false := fun _ _ => rfl
    rw [hb]; clear hb
    go_enter Tryd.func55, Tryd.ntmps55
    go_wp2_with (first | (go_at_call 17; refine (HNM.out _).mono ?_; rintro e _ ⟨rfl, u1, rfl⟩))
    go_ret
    exact RetX.b rfl ((Below.refl _ _).alloc (Nat.le_refl _) _)
  · cases h0 : (n == 0)
    · have hb : ∀ c : Bool, (true && false && c) = false := fun _ => rfl
      rw [hb]; clear hb
      go_enter Tryd.func55, Tryd.ntmps55
      go_wp2_with (first | (go_at_call 17; refine (HNM.out _).mono ?_; rintro e _ ⟨rfl, u1, rfl⟩))
      go_ret
      exact RetX.b rfl ((Below.refl _ _).alloc (Nat.le_refl _) _)
    · cases hem : t.toList.isEmpty
      go_enter Tryd.func55, Tryd.ntmps55
      go_wp2_with (first | (go_at_call 17; refine (HNM.out _).mono ?_; rintro e _ ⟨rfl, u1, rfl⟩))
      go_ret
      exact RetX.b rfl ((Below.refl _ _).alloc (Nat.le_refl _) _)
      · have hnil : t.toList = [] := by simpa using hem
        go_enter Tryd.func55, Tryd.ntmps55
        go_wp2_with (first | (go_at_call 17; refine (HNM.out _).mono ?_; rintro e _ ⟨rfl, u1, rfl⟩))
        go_ret
        exact RetX.b rfl ((Below.refl _ _).alloc (Nat.le_refl _) _)
set_option maxRecDepth 100000 in
set_option maxHeartbeats 8000000 in
theorem right1_any (x : Word) (w : World) (hv : VarsS w) (hn : InI x.n) (hs : x.text.size ≤ 17179869184) : Calls Tryd.prog 59 #[.agg #[.int .i64 x.kind, .string x.text, .int .i64 x.n, .int .i64 x.line, .int .i64 x.col]] w (RetX (.bool (rightW x)) w) := by
  have HV := hide hv; have HN := hide hn; clear hv hn
  obtain ⟨k, t, n, line, col⟩ := x
  simp only at HN hs
  have HV1 := hide (HV.out.alloc (.cells #[.int .i64 k, .string t, .int .i64 n, .int .i64 line, .int .i64 col] 77))
  have HNM := hide (fun W => isName1_any t W hs)
  by_cases h1 : k = 1
  · subst h1
    cases h0 : (n == 0)
    · have e : rightW ⟨1, t, n, line, col⟩ = false := by unfold rightW; simp only [if_true, h0, Bool.false_and]
      rw [e]; clear e
      go_enter Tryd.func59, Tryd.ntmps59
      go_wp2_with (first | (go_at_call 18; refine (HNM.out _).mono ?_; rintro e w' ⟨rfl, rfl⟩))
      go_ret
      exact RetX.b rfl ((Below.refl _ _).alloc (Nat.le_refl _) _)
    · have e : rightW ⟨1, t, n, line, col⟩ = isNameR 0 (items t 0) := by unfold rightW; simp only [if_true, h0, Bool.true_and]
      rw [e]; clear e
      obtain ⟨B, hB⟩ : ∃ B, isNameR 0 (items t 0) = B := ⟨_, rfl⟩
      rw [hB] at HNM ⊢; clear hB
      go_enter Tryd.func59, Tryd.ntmps59
      go_wp2_with (first | (go_at_call 18; refine (HNM.out _).mono ?_; rintro e w' ⟨rfl, rfl⟩))
      go_ret
      exact RetX.b rfl ((Below.refl _ _).alloc (Nat.le_refl _) _)
  have k1 : (k == 1) = false := by simpa using h1
  by_cases h2 : k = 2
  · subst h2
    have e : rightW ⟨2, t, n, line, col⟩ = (decide (-1099511627776 ≤ n) && decide (n ≤ 1099511627776) && (t.toList == (itoaB n).toList)) := by unfold rightW; rw [if_neg (by decide : ¬ (2 : Int) = 1), if_pos rfl]
    rw [e]; clear e h1
    have HIT := hide (fun W (h : VarsS W) => itoa_any n HN.out W h)
    obtain ⟨q, hq⟩ : ∃ q, (t.toList == (itoaB n).toList) = q := ⟨_, rfl⟩
    rw [hq]
    obtain ⟨ib, hib⟩ : ∃ ib, itoaB n = ib := ⟨_, rfl⟩
    rw [hib] at HIT hq; clear hib
    by_cases hlo : -1099511627776 ≤ n
    · by_cases hhi : n ≤ 1099511627776
      · have hb : (decide (-1099511627776 ≤ n) && decide (n ≤ 1099511627776) && q) = q := by simp [hlo, hhi]
        rw [hb]; clear hb
        go_enter Tryd.func59, Tryd.ntmps59
        go_wp2_with (first | (go_at_call 18; refine (HNM.out _).mono ?_; rintro e w' ⟨rfl, rfl⟩))
        refine wp_region_ext (by kernel_rfl) (by kernel_rfl) ?_
        repeat (any_goals (first | go_big_quiet_step (((go_at_call 90; exact quiet_retx (HIT.out _ (HV1.out.ext _))))) | quiet_step (((go_at_call 90; exact quiet_retx (HIT.out _ (HV1.out.ext _)))))))
        refine wpQuiet_nil ?_
        rintro _ ⟨uq, rfl⟩
        go_wp2_with fail
        go_ret
        exact RetX.b rfl (((Below.refl _ _).alloc (Nat.le_refl _) _).ext (by simp) _)
      · have hb : (decide (-1099511627776 ≤ n) && decide (n ≤ 1099511627776) && q) = false := by simp [hhi]
        rw [hb]; clear hb
        have d1 : decide (-1099511627776 ≤ n) = true := by simp [hlo]
        have d2 : decide (n ≤ 1099511627776) = false := by simp [hhi]
        clear hq
        go_enter Tryd.func59, Tryd.ntmps59
        go_wp2_with (first | (go_at_call 18; refine (HNM.out _).mono ?_; rintro e w' ⟨rfl, rfl⟩))
        refine wp_region_ext (by kernel_rfl) (by kernel_rfl) ?_
        repeat (any_goals (first | go_big_quiet_step (((go_at_call 90; exact quiet_retx (HIT.out _ (HV1.out.ext _))))) | quiet_step (((go_at_call 90; exact quiet_retx (HIT.out _ (HV1.out.ext _)))))))
        refine wpQuiet_nil ?_
        rintro _ ⟨uq, rfl⟩
        go_wp2_with fail
        go_ret
        exact RetX.b rfl (((Below.refl _ _).alloc (Nat.le_refl _) _).ext (by simp) _)
    · have hb : (decide (-1099511627776 ≤ n) && decide (n ≤ 1099511627776) && q) = false := by simp [hlo]
      rw [hb]; clear hb
      have d1 : decide (-1099511627776 ≤ n) = false := by simp [hlo]
      clear hq
      go_enter Tryd.func59, Tryd.ntmps59
      go_wp2_with (first | (go_at_call 18; refine (HNM.out _).mono ?_; rintro e w' ⟨rfl, rfl⟩))
      refine wp_region_ext (by kernel_rfl) (by kernel_rfl) ?_
      repeat (any_goals (first | go_big_quiet_step (((go_at_call 90; exact quiet_retx (HIT.out _ (HV1.out.ext _))))) | quiet_step (((go_at_call 90; exact quiet_retx (HIT.out _ (HV1.out.ext _)))))))
      refine wpQuiet_nil ?_
      rintro _ ⟨uq, rfl⟩
      go_wp2_with fail
      go_ret
      exact RetX.b rfl (((Below.refl _ _).alloc (Nat.le_refl _) _).ext (by simp) _)
  have k2 : (k == 2) = false := by simpa using h2
  by_cases h3 : k = 3
  · subst h3
    have e : rightW ⟨3, t, n, line, col⟩ = (n == 0 && sgnT t) := by unfold rightW; rw [if_neg (by decide : ¬ (3 : Int) = 1), if_neg (by decide : ¬ (3 : Int) = 2), if_pos rfl]
    rw [e]; clear e h1 h2
    have HD := hide (fun W => at_any t 0 W (by omega) (by omega))
    have hsg := sgn_at t
    obtain ⟨⟨c, m⟩, hcm⟩ : ∃ cm, atR t 0 = cm := ⟨_, rfl⟩
    rw [hcm] at HD hsg; clear hcm
    rw [← hsg]; clear hsg
    cases h0 : (n == 0)
    · have hb : ∀ b : Bool, (false && b) = false := fun _ => rfl
      rw [hb]; clear hb
      go_enter Tryd.func59, Tryd.ntmps59
      go_wp2_with (first | (go_at_call 18; refine (HNM.out _).mono ?_; rintro e w' ⟨rfl, rfl⟩) | (go_at_call 48; refine (HD.out _).mono ?_; rintro e w' ⟨rfl, rfl⟩) | (go_at_call 25; (with_reducible refine (sign1_any _ _).mono ?_); rintro e w' ⟨rfl, rfl⟩))
      go_ret
      exact RetX.b rfl ((Below.refl _ _).alloc (Nat.le_refl _) _)
    · by_cases hm : m = t.size
      · have hmb : ((m : Int) == (t.size : Int)) = true := by simp [hm]
        have hmn : decide (m = t.size) = true := by simp [hm]
        by_cases hz : 0 < m
        · have hz' : (0 : Int) < (m : Int) := by omega
          have hzd : decide (0 < m) = true := by simp [hz]
          rw [hmn, hzd]
          clear hm hmn hzd
          go_enter Tryd.func59, Tryd.ntmps59
          go_wp2_with (first | (go_at_call 18; refine (HNM.out _).mono ?_; rintro e w' ⟨rfl, rfl⟩) | (go_at_call 48; refine (HD.out _).mono ?_; rintro e w' ⟨rfl, rfl⟩) | (go_at_call 25; (with_reducible refine (sign1_any _ _).mono ?_); rintro e w' ⟨rfl, rfl⟩))
          go_ret
          exact RetX.b rfl ((Below.refl _ _).alloc (Nat.le_refl _) _)
        · have hz' : ¬ (0 : Int) < (m : Int) := by omega
          have hzd : decide (0 < m) = false := by simp [hz]
          rw [hzd]
          clear hm hmn hzd
          go_enter Tryd.func59, Tryd.ntmps59
          go_wp2_with (first | (go_at_call 18; refine (HNM.out _).mono ?_; rintro e w' ⟨rfl, rfl⟩) | (go_at_call 48; refine (HD.out _).mono ?_; rintro e w' ⟨rfl, rfl⟩) | (go_at_call 25; (with_reducible refine (sign1_any _ _).mono ?_); rintro e w' ⟨rfl, rfl⟩))
          go_ret
          exact RetX.b rfl ((Below.refl _ _).alloc (Nat.le_refl _) _)
      · have hmb : ((m : Int) == (t.size : Int)) = false := by simp; omega
        have hmn : decide (m = t.size) = false := by simp [hm]
        by_cases hz : 0 < m
        · have hz' : (0 : Int) < (m : Int) := by omega
          rw [hmn]
          clear hm hmn
          go_enter Tryd.func59, Tryd.ntmps59
          go_wp2_with (first | (go_at_call 18; refine (HNM.out _).mono ?_; rintro e w' ⟨rfl, rfl⟩) | (go_at_call 48; refine (HD.out _).mono ?_; rintro e w' ⟨rfl, rfl⟩) | (go_at_call 25; (with_reducible refine (sign1_any _ _).mono ?_); rintro e w' ⟨rfl, rfl⟩))
          go_ret
          exact RetX.b (by simp) ((Below.refl _ _).alloc (Nat.le_refl _) _)
        · have hz' : ¬ (0 : Int) < (m : Int) := by omega
          rw [hmn]
          clear hm hmn
          go_enter Tryd.func59, Tryd.ntmps59
          go_wp2_with (first | (go_at_call 18; refine (HNM.out _).mono ?_; rintro e w' ⟨rfl, rfl⟩) | (go_at_call 48; refine (HD.out _).mono ?_; rintro e w' ⟨rfl, rfl⟩) | (go_at_call 25; (with_reducible refine (sign1_any _ _).mono ?_); rintro e w' ⟨rfl, rfl⟩))
          go_ret
          exact RetX.b (by simp) ((Below.refl _ _).alloc (Nat.le_refl _) _)
  have k3 : (k == 3) = false := by simpa using h3
  have e : rightW ⟨k, t, n, line, col⟩ = (k == 4 && n == 0 && t.toList.isEmpty) := by unfold rightW; rw [if_neg h1, if_neg h2, if_neg h3]
  rw [e]; clear e h1 h2 h3
  cases k4 : (k == 4)
  · have hb : ∀ b c : Bool, (false && b && c) = false := fun _ _ => rfl
    rw [hb]; clear hb
    go_enter Tryd.func59, Tryd.ntmps59
    go_wp2_with (first | (go_at_call 18; refine (HNM.out _).mono ?_; rintro e w' ⟨rfl, rfl⟩))
    go_ret
    exact RetX.b rfl ((Below.refl _ _).alloc (Nat.le_refl _) _)
  · cases h0 : (n == 0)
    · have hb : ∀ c : Bool, (true && false && c) = false := fun _ => rfl
      rw [hb]; clear hb
      go_enter Tryd.func59, Tryd.ntmps59
      go_wp2_with (first | (go_at_call 18; refine (HNM.out _).mono ?_; rintro e w' ⟨rfl, rfl⟩))
      go_ret
      exact RetX.b rfl ((Below.refl _ _).alloc (Nat.le_refl _) _)
    · cases hem : t.toList.isEmpty
      go_enter Tryd.func59, Tryd.ntmps59
      go_wp2_with (first | (go_at_call 18; refine (HNM.out _).mono ?_; rintro e w' ⟨rfl, rfl⟩))
      go_ret
      exact RetX.b rfl ((Below.refl _ _).alloc (Nat.le_refl _) _)
      · have hnil : t.toList = [] := by simpa using hem
        go_enter Tryd.func59, Tryd.ntmps59
        go_wp2_with (first | (go_at_call 18; refine (HNM.out _).mono ?_; rintro e w' ⟨rfl, rfl⟩))
        go_ret
        exact RetX.b rfl ((Below.refl _ _).alloc (Nat.le_refl _) _)
end Go.Proofs.YtmlopggainkoiaaDoor
