/- Walks: the program's moves: idle, right, spare, names, Busy. -/
import Derived.Test.YtoghikagooegbaaN8
import Derived.Test.YtoghikagooegbaaEq3
import Derived.Test.YtoghikagooegbaaW1
import Derived.Test.YtoghikagooegbaaN6
set_option linter.unusedSimpArgs false
set_option linter.unusedVariables false
namespace Go.Proofs.Ytoghikagooegbaa
open Go.RowKit

theorem locEq (a b : Loc) : ((a.slot == b.slot) && (a.n == b.n)) = decide (a = b) := by
  obtain ⟨s, n⟩ := a
  obtain ⟨t, m⟩ := b
  rw [Bool.eq_iff_iff]
  simp
theorem idle_any (w : World) (m : Move) : Calls Try.prog 29 #[.agg #[.bool m.src.slot, .int .i64 m.src.n, .bool m.dst.slot, .int .i64 m.dst.n]] w (RetX (.bool (decide (m.src = m.dst))) w) := by
  rw [← locEq m.src m.dst]
  obtain ⟨⟨s1, n1⟩, ⟨s2, n2⟩⟩ := m
  dsimp only
  go_enter Try.func29, Try.ntmps29
  go_wp2_with fail
  all_goals
    go_ret
    exact RetX.b (by simp_all) (by repeat (first | exact Below.refl _ _ | assumption | refine Below.alloc ?_ (by simp [size_ext]; try omega) _ | refine Below.ext ?_ (by simp [size_ext]; try omega) _ | refine Below.drew ?_ | refine Below.setCell ?_ (by simp [size_ext]; try omega) _))
theorem okp_any (w : World) (p : Loc) (hp : InI p.n) : Calls Try.prog 30 #[.agg #[.bool p.slot, .int .i64 p.n]] w (RetX (.bool (okL p)) w) := by
  go_enter Try.func30, Try.ntmps30
  obtain ⟨s, n⟩ := p
  cases s with
  | true =>
    by_cases h0 : 0 ≤ n
    · have hd : decide (0 ≤ n) = true := by simpa using h0
      go_wp2_with fail
      go_ret
      exact RetX.b (by unfold okL; simp; try omega) (by repeat (first | exact Below.refl _ _ | assumption | refine Below.alloc ?_ (by simp [size_ext]; try omega) _ | refine Below.ext ?_ (by simp [size_ext]; try omega) _ | refine Below.drew ?_ | refine Below.setCell ?_ (by simp [size_ext]; try omega) _))
    · have hd : decide (0 ≤ n) = false := by simpa using h0
      go_wp2_with fail
      go_ret
      exact RetX.b (by unfold okL; simp; try omega) (by repeat (first | exact Below.refl _ _ | assumption | refine Below.alloc ?_ (by simp [size_ext]; try omega) _ | refine Below.ext ?_ (by simp [size_ext]; try omega) _ | refine Below.drew ?_ | refine Below.setCell ?_ (by simp [size_ext]; try omega) _))
  | false =>
    by_cases h0 : 0 ≤ n
    · have hd : decide (0 ≤ n) = true := by simpa using h0
      go_wp2_with fail
      go_ret
      exact RetX.b (by unfold okL; simp; try omega) (by repeat (first | exact Below.refl _ _ | assumption | refine Below.alloc ?_ (by simp [size_ext]; try omega) _ | refine Below.ext ?_ (by simp [size_ext]; try omega) _ | refine Below.drew ?_ | refine Below.setCell ?_ (by simp [size_ext]; try omega) _))
    · have hd : decide (0 ≤ n) = false := by simpa using h0
      go_wp2_with fail
      go_ret
      exact RetX.b (by unfold okL; simp; try omega) (by repeat (first | exact Below.refl _ _ | assumption | refine Below.alloc ?_ (by simp [size_ext]; try omega) _ | refine Below.ext ?_ (by simp [size_ext]; try omega) _ | refine Below.drew ?_ | refine Below.setCell ?_ (by simp [size_ext]; try omega) _))
theorem spare_any (w : World) (n : Int) : Calls Try.prog 31 #[.int .i64 n] w (RetX (.agg #[.bool true, .int .i64 n]) w) := by
  go_enter Try.func31, Try.ntmps31
  go_wp2_with fail
  refine bodyPost_ret (results_cell_row Try.results31 _ _ w.heap.size _ _ (0, 0) _ rfl (heap_alloc_new w _) Try.underlying40 rfl (by kernel_rfl)) rfl ?_
  exact ⟨rfl, Below.to_ext (by repeat (first | exact Below.refl _ _ | assumption | refine Below.alloc ?_ (by simp [size_ext]; try omega) _ | refine Below.ext ?_ (by simp [size_ext]; try omega) _ | refine Below.drew ?_ | refine Below.setCell ?_ (by simp [size_ext]; try omega) _))⟩
theorem name1_any (w : World) (m : Move) (p : Loc) (g : Nat) (hg : g < w.heap.size) (h0 : w.cell? ⟨g, 0, none⟩ = some (.bool p.slot)) (h1 : w.cell? ⟨g, 1, none⟩ = some (.int .i64 p.n)) :
    Calls Try.prog 44 #[.agg #[.bool m.src.slot, .int .i64 m.src.n, .bool m.dst.slot, .int .i64 m.dst.n], .pointer (some ⟨g, 0, none⟩)] w (RetX (.bool (decide (m.src = p) || decide (m.dst = p))) w) := by
  rw [← locEq m.src p, ← locEq m.dst p]
  obtain ⟨⟨s1, n1⟩, ⟨s2, n2⟩⟩ := m
  obtain ⟨s, n⟩ := p
  dsimp only at h0 h1 ⊢
  go_enter Try.func44, Try.ntmps44
  go_wp2_with fail
  all_goals
    go_ret
    exact RetX.b (by simp_all) (by repeat (first | exact Below.refl _ _ | assumption | refine Below.alloc ?_ (by simp [size_ext]; try omega) _ | refine Below.ext ?_ (by simp [size_ext]; try omega) _ | refine Below.drew ?_ | refine Below.setCell ?_ (by simp [size_ext]; try omega) _))
theorem indexMoves_any (w : World) (S : Nat → Prop) (A : Option Addr) (n c : Nat) (xs : List Move) (f : Move → Bool) (fn : FuncId) (caps : Array Value) (h : Sl w S A n c xs)
    (hfn : ∀ (vs : Array Value) (w : World), (callFunc fn vs).run Try.prog w = .ok (.enter fn vs) w) (hf : ∀ (x : Move) (u : Ext), InI x.src.n → InI x.dst.n → Calls Try.prog fn (#[.agg #[.bool x.src.slot, .int .i64 x.src.n, .bool x.dst.slot, .int .i64 x.dst.n]] ++ caps) (w.ext u) (RetX (.bool (f x)) (w.ext u))) :
    Calls Try.prog 63 #[.slice A n c, .func (.func fn) #[] caps] w (RetX (.int .i64 (idxF f 0 xs)) w) := by
  have hn := h.nle
  have HL := hide h.len
  have HS := hide h; have HF := hide hf
  clear h hf
  go_enter Try.func63, Try.ntmps63
  go_wp2
  go_loopw [8] (fun i wr => ∃ k : Nat, k ≤ n ∧ i = .int .i64 k ∧ idxF f 0 xs = idxF f k (xs.drop k) ∧ ∃ u, wr = w.ext u) (fun i _ => n - (intOf i).toNat)
  case atStart => exact ⟨0, Nat.zero_le _, rfl, rfl, ext_refl _⟩
  case round =>
    obtain ⟨k, hk, rfl, hr, u, rfl⟩ := hrel
    have HR := hide hr; clear hr
    by_cases hlt : k < n
    · obtain ⟨b, off, x, rfl, hb, hx, hx1, hx2, c0, c1, c2, c3⟩ := at_Move (HS.out.ext u) hlt
      have HX := hide (drop_at hx); clear hx
      by_cases hv : f x = true
      · have HV := hide hv; clear hv
        go_wp2_with (refine (HF.out x _ hx1 hx2).mono ?_; rintro e _ ⟨rfl, ux, rfl⟩; rw [HV.out])
        go_ret
        exact RetX.i (by rw [HR.out, HX.out]; simp [idxF, HV.out]) (by repeat (first | exact Below.refl _ _ | assumption | refine Below.alloc ?_ (by simp [size_ext]; try omega) _ | refine Below.ext ?_ (by simp [size_ext]; try omega) _ | refine Below.drew ?_ | refine Below.setCell ?_ (by simp [size_ext]; try omega) _))
      · have HV := hide (show f x = false by simpa using hv); clear hv
        go_wp2_with (refine (HF.out x _ hx1 hx2).mono ?_; rintro e _ ⟨rfl, ux, rfl⟩; rw [HV.out])
        go_roundw
        case rel => exact ⟨k + 1, by omega, by go_num, by rw [HR.out, HX.out]; simp [idxF, HV.out], Below.to_ext (by repeat (first | exact Below.refl _ _ | assumption | refine Below.alloc ?_ (by simp [size_ext]; try omega) _ | refine Below.ext ?_ (by simp [size_ext]; try omega) _ | refine Below.drew ?_ | refine Below.setCell ?_ (by simp [size_ext]; try omega) _))⟩
        case measure => simp [intOf]; omega
    · go_wp2
      go_ret
      exact RetX.i (by rw [HR.out, drop_end HL.out hlt]; rfl) (by repeat (first | exact Below.refl _ _ | assumption | refine Below.alloc ?_ (by simp [size_ext]; try omega) _ | refine Below.ext ?_ (by simp [size_ext]; try omega) _ | refine Below.drew ?_ | refine Below.setCell ?_ (by simp [size_ext]; try omega) _))
theorem containsMoves_any (w : World) (S : Nat → Prop) (A : Option Addr) (n c : Nat) (xs : List Move) (f : Move → Bool) (fn : FuncId) (caps : Array Value) (h : Sl w S A n c xs)
    (hfn : ∀ (vs : Array Value) (w : World), (callFunc fn vs).run Try.prog w = .ok (.enter fn vs) w) (hf : ∀ (x : Move) (u : Ext), InI x.src.n → InI x.dst.n → Calls Try.prog fn (#[.agg #[.bool x.src.slot, .int .i64 x.src.n, .bool x.dst.slot, .int .i64 x.dst.n]] ++ caps) (w.ext u) (RetX (.bool (f x)) (w.ext u))) :
    Calls Try.prog 43 #[.slice A n c, .func (.func fn) #[] caps] w (RetX (.bool (anyF f xs)) w) := by
  have HS := hide h; have HF := hide hf
  clear h hf
  go_enter Try.func43, Try.ntmps43
  go_wp2_with (go_at_call 63; refine (indexMoves_any _ S _ _ _ xs f fn caps HS.out hfn HF.out).mono ?_; rintro e _ ⟨rfl, ux, rfl⟩)
  go_ret
  exact RetX.b (idxF_ge f xs 0) (by repeat (first | exact Below.refl _ _ | assumption | refine Below.alloc ?_ (by simp [size_ext]; try omega) _ | refine Below.ext ?_ (by simp [size_ext]; try omega) _ | refine Below.drew ?_ | refine Below.setCell ?_ (by simp [size_ext]; try omega) _))
theorem anyF_any {α : Type} (f : α → Bool) : ∀ xs : List α, anyF f xs = xs.any f := by
  intro xs
  induction xs with
  | nil => rfl
  | cons x l ih => simp [anyF, ih]
theorem names_any (w : World) (S : Nat → Prop) (A : Option Addr) (n c : Nat) (xs : List Move) (h : Sl w S A n c xs) (p : Loc) :
    Calls Try.prog 33 #[.slice A n c, .agg #[.bool p.slot, .int .i64 p.n]] w (RetX (.bool (namesM xs p)) w) := by
  have HS := hide h
  clear h
  go_enter Try.func33, Try.ntmps33
  go_wp2_with fail
  refine (containsMoves_any _ S A n c xs (fun x => decide (x.src = p) || decide (x.dst = p)) 44 #[.pointer (some ⟨w.heap.size, 0, none⟩)] (by exact HS.out.alloc _) (fun _ _ => by kernel_rfl) (fun x u _ _ => ?_)).mono ?_
  · exact name1_any _ x p w.heap.size (by simp [size_ext]; omega) (by rw [cell?_ext _ _ _ (by simp)]; go_simp) (by rw [cell?_ext _ _ _ (by simp)]; go_simp)
  rintro e _ ⟨rfl, ux, rfl⟩
  go_wp2_with fail
  go_ret
  exact RetX.b (anyF_any _ xs) (by repeat (first | exact Below.refl _ _ | assumption | refine Below.alloc ?_ (by simp [size_ext]; try omega) _ | refine Below.ext ?_ (by simp [size_ext]; try omega) _ | refine Below.drew ?_ | refine Below.setCell ?_ (by simp [size_ext]; try omega) _))
end Go.Proofs.Ytoghikagooegbaa
