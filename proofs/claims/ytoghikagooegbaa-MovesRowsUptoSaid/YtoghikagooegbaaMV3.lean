/- Walks: the program's moves: Right, ready, of, Delete. -/
import Derived.Test.YtoghikagooegbaaMV2
set_option linter.unusedSimpArgs false
set_option linter.unusedVariables false
namespace Go.Proofs.Ytoghikagooegbaa
open Go.RowKit Go.Maps

theorem mright_any (w : World) (S : Nat → Prop) (A : Option Addr) (n c : Nat) (xs : List Move) (h : Sl w S A n c xs) (hm : n ≤ 1048576) (t : Int) (ht : InI t) :
    Calls Try.prog 12 #[.slice A n c, .int .i64 t] w (RetX (.bool (rightM' xs (spL t))) w) := by
  have HS := hide h
  have HSP := hide (fun W => spare_any W t)
  obtain ⟨b1, hb1⟩ : ∃ b, okL (spL t) = b := ⟨_, rfl⟩
  obtain ⟨b2, hb2⟩ : ∃ b, soundM xs = b := ⟨_, rfl⟩
  obtain ⟨b3, hb3⟩ : ∃ b, namesM xs (spL t) = b := ⟨_, rfl⟩
  have HOK := hide (fun W => show Calls Try.prog 30 #[.agg #[.bool true, .int .i64 t]] W (RetX (.bool b1) W) from hb1 ▸ okp_any W (spL t) ht)
  have HSO := hide (fun u u' : Ext => hb2 ▸ sound_any ((w.ext u).ext u') _ A n c xs ((HS.out.ext u).ext u') hm)
  have HNA := hide (fun u u' u'' u3 : Ext => show Calls Try.prog 33 #[.slice A n c, .agg #[.bool true, .int .i64 t]] ((((w.ext u).ext u').ext u'').ext u3) (RetX (.bool b3) ((((w.ext u).ext u').ext u'').ext u3)) from hb3 ▸ names_any ((((w.ext u).ext u').ext u'').ext u3) _ A n c xs ((((HS.out.ext u).ext u').ext u'').ext u3) (spL t))
  unfold rightM'
  rw [hb1, hb2, hb3]
  clear h hb1 hb2 hb3
  go_enter Try.func12, Try.ntmps12
  cases b1 <;> cases b2
  all_goals
    go_wp2_with (first
      | (go_at_call 31; (with_reducible refine (HSP.out _).mono ?_); rintro e _ ⟨rfl, u1, rfl⟩)
      | (go_at_call 30; (with_reducible refine (HOK.out _).mono ?_); rintro e _ ⟨rfl, u2, rfl⟩)
      | (go_at_call 32; (with_reducible refine (HSO.out _ _).mono ?_); rintro e _ ⟨rfl, u3, rfl⟩)
      | (go_at_call 33; (with_reducible refine (HNA.out _ _ _ _).mono ?_); rintro e _ ⟨rfl, u4, rfl⟩))
    go_ret
    exact RetX.b (by simp) (by repeat (first | exact Below.refl _ _ | assumption | refine Below.alloc ?_ (by simp [size_ext]; try omega) _ | refine Below.ext ?_ (by simp [size_ext]; try omega) _ | refine Below.drew ?_ | refine Below.setCell ?_ (by simp [size_ext]; try omega) _))
/-- A step, as a value. -/
def stepV (m : Move) : Value := if m.dst.slot = true then .iface 74 (.agg #[.int .i64 m.dst.n, .int .i64 m.src.n]) else if m.src.slot = true then .iface 122 (.agg #[.int .i64 m.dst.n, .int .i64 m.src.n]) else .iface 124 (.agg #[.int .i64 m.dst.n, .int .i64 m.src.n])
theorem of_any' (w : World) (m : Move) : Calls Try.prog 39 #[.agg #[.bool m.src.slot, .int .i64 m.src.n, .bool m.dst.slot, .int .i64 m.dst.n]] w (RetX (stepV m) w) := by
  obtain ⟨⟨s1, n1⟩, ⟨s2, n2⟩⟩ := m
  go_enter Try.func39, Try.ntmps39
  cases s1 <;> cases s2
  all_goals
    go_wp2_with fail
    go_ret
    exact ⟨rfl, Below.to_ext (by repeat (first | exact Below.refl _ _ | assumption | refine Below.alloc ?_ (by simp [size_ext]; try omega) _ | refine Below.ext ?_ (by simp [size_ext]; try omega) _ | refine Below.drew ?_ | refine Below.setCell ?_ (by simp [size_ext]; try omega) _))⟩
/-- How many go from each place. -/
def manyF (l : List Move) : Loc → Option Int := fun p => if l.countP (fun m => decide (m.src = p)) = 0 then none else some (l.countP (fun m => decide (m.src = p)) : Nat)
theorem manyF_nil : manyF [] = fun _ => none := by funext p; simp [manyF]
theorem manyF_get (l : List Move) (p : Loc) : (manyF l p).getD 0 = (l.countP (fun m => decide (m.src = p)) : Nat) := by
  unfold manyF
  split
  · rename_i h; rw [h]; rfl
  · rfl
theorem manyF_snoc (l : List Move) (x : Move) : upd (manyF l) x.src (some ((l.countP (fun m => decide (m.src = x.src)) : Nat) + 1)) = manyF (l ++ [x]) := by
  funext p
  unfold upd manyF
  rw [List.countP_append]
  by_cases h : p = x.src
  · subst h; simp
  · have : ¬ x.src = p := fun e => h e.symm
    simp [h, this]
theorem manyF_zero (l : List Move) (p : Loc) : decide ((manyF l p).getD 0 = 0) = !goesB l p := by
  rw [manyF_get, Bool.eq_iff_iff]
  simp only [decide_eq_true_eq, Bool.not_eq_true', goesB_false]
  constructor
  · intro h x hx e
    have : 0 < l.countP (fun m => decide (m.src = p)) := List.countP_pos_iff.2 ⟨x, hx, by simpa using e⟩
    omega
  · intro h
    have : l.countP (fun m => decide (m.src = p)) = 0 := List.countP_eq_zero.2 fun x hx => by simpa using h x hx
    omega
def readyI (l : List Move) : Int := match readyM l with | some k => (k : Int) | none => -1
theorem idxF_find {α : Type} (f : α → Bool) : ∀ (l : List α) (k : Nat), idxF f k l = match l.findIdx? f with | some i => ((k + i : Nat) : Int) | none => -1 := by
  intro l
  induction l with
  | nil => intro k; rfl
  | cons a l ih =>
    intro k
    rw [List.findIdx?_cons]
    cases h : f a with
    | true => simp [idxF, h]
    | false =>
      simp only [idxF, h, Bool.false_eq_true, if_false]
      rw [ih (k + 1)]
      cases hq : l.findIdx? f with
      | none => rfl
      | some i => show (((k + 1 + i : Nat)) : Int) = ((k + (i + 1) : Nat) : Int); omega
theorem idx_ready (l : List Move) : idxF (fun m => !goesB l m.dst) 0 l = readyI l := by
  rw [idxF_find]
  unfold readyI readyM
  cases l.findIdx? (fun m => !goesB l m.dst) with
  | none => rfl
  | some i => simp
end Go.Proofs.Ytoghikagooegbaa
