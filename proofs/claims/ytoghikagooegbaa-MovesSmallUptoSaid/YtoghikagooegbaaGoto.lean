/- A scope in which the run jumps back to one label: with what is known beside the frame. -/
import Derived.Test.YtoghikagooegbaaBase
import Derived.ScopeJumps
import Derived.WalkMore
set_option linter.unusedSimpArgs false
set_option linter.unusedVariables false
namespace Go.Proofs.Ytoghikagooegbaa
open Go.RowKit

theorem Exit.jump_mono {l : Nat} {J J' : Act → World → Prop} {Q : Exit → Act → World → Prop} (h : ∀ a w, J a w → J' a w) : ∀ e a w, Exit.jump l J Q e a w → Exit.jump l J' Q e a w := by
  intro e a w hq
  cases e <;> first | exact hq | exact ⟨hq.1, h _ _ hq.2⟩
theorem least_ {p : Nat → Prop} (h : ∃ m, p m) : ∃ m, p m ∧ ∀ k, p k → m ≤ k := by
  obtain ⟨m, hm⟩ := h
  induction m using Nat.strongRecOn with
  | _ m ih =>
    by_cases hk : ∃ k, k < m ∧ p k
    · obtain ⟨k, hlt, hp⟩ := hk
      exact ih k hlt hp
    · refine ⟨m, hm, fun k hp => ?_⟩
      rcases Nat.lt_or_ge k m with h | h
      · exact absurd ⟨k, h, hp⟩ hk
      · exact h
/-- .. 'J' holds at each jump, of something that gets less. -/
theorem wp_scope_ghost {P : Program} {a : Act} {w : World} {Q : Exit → Act → World → Prop} {β : Type} {c rest : Code} (l : Nat) (J : β → Act → World → Prop) (μ : β → Nat) (hf : findLabel c l = some rest)
    (pass : ∀ g a w, J g a w → rest.wp P (Exit.jump l (fun a' w' => ∃ g', μ g' < μ g ∧ J g' a' w') Q) a w)
    (first : (∀ g a w, J g a w → rest.wp P (Exit.jump l (fun a' w' => ∃ g', J g' a' w') Q) a w) → c.wp P (Exit.jump l (fun a' w' => ∃ g', J g' a' w') Q) a w) : (Code.scope c).wp P Q a w := by
  classical
  have hfst := first fun g a w hJ => Code.wp_mono (Exit.jump_mono fun a w ⟨g', _, h⟩ => ⟨g', h⟩) (pass g a w hJ)
  let ν : Act → World → Nat := fun a w => if h : ∃ m, ∃ g, μ g = m ∧ J g a w then (least_ h).choose else 0
  refine wp_scope_jumps l (fun a w => ∃ g, J g a w) ν hf hfst ?_
  rintro a w ⟨g, hJ⟩
  have hex : ∃ m, ∃ g, μ g = m ∧ J g a w := ⟨_, g, rfl, hJ⟩
  obtain ⟨g1, hg1, hJ1⟩ := (least_ hex).choose_spec.1
  refine Code.wp_mono (Exit.jump_mono fun a' w' ⟨g', hlt, hJ'⟩ => ⟨⟨g', hJ'⟩, ?_⟩) (pass g1 a w hJ1)
  have hex' : ∃ m, ∃ g, μ g = m ∧ J g a' w' := ⟨_, g', rfl, hJ'⟩
  have e1 : ν a w = (least_ hex).choose := dif_pos hex
  have e2 : ν a' w' = (least_ hex').choose := dif_pos hex'
  rw [e1, e2]
  have := (least_ hex').choose_spec.2 _ ⟨g', rfl, hJ'⟩
  omega
@[go_sem] theorem Exit.jump_normal {l : Nat} {J : Act → World → Prop} {Q : Exit → Act → World → Prop} {a : Act} {w : World} : Exit.jump l J Q .normal a w = Q .normal a w := rfl
@[go_sem] theorem Exit.jump_exit {l : Nat} {J : Act → World → Prop} {Q : Exit → Act → World → Prop} {a : Act} {w : World} (id : Nat) : Exit.jump l J Q (.exit id) a w = Q (.exit id) a w := rfl
@[go_sem] theorem Exit.jump_ret {l : Nat} {J : Act → World → Prop} {Q : Exit → Act → World → Prop} {a : Act} {w : World} : Exit.jump l J Q .ret a w = Q .ret a w := rfl
@[go_sem] theorem Exit.jump_panic {l : Nat} {J : Act → World → Prop} {Q : Exit → Act → World → Prop} {a : Act} {w : World} (ch : List PanicEntry) : Exit.jump l J Q (.panic ch) a w = Q (.panic ch) a w := rfl
/-- .. the label stands behind the scope's head: what follows it is walked once. -/
theorem wp_scope_head {P : Program} {a : Act} {w : World} {Q : Exit → Act → World → Prop} {β : Type} {X R : Code} (l : Nat) (J : β → Act → World → Prop) (μ : β → Nat) (hf : findLabel (X.seq ((Code.label l).seq R)) l = some (Code.skip.seq R))
    (pass : ∀ g a w, J g a w → R.wp P (Exit.jump l (fun a' w' => ∃ g', μ g' < μ g ∧ J g' a' w') Q) a w)
    (first : ∀ K : Act → World → Prop, (∀ g a w, J g a w → K a w) → X.wp P (Exit.then K (Exit.jump l (fun a' w' => ∃ g', J g' a' w') Q)) a w) : (Code.scope (X.seq ((Code.label l).seq R))).wp P Q a w := by
  refine wp_scope_ghost l J μ hf (fun g a w hJ => wp_seq (wp_skip (pass g a w hJ))) fun hp => ?_
  refine wp_seq (first _ fun g a w hJ => ?_)
  exact wp_seq (wp_label (Code.wp_mono (Exit.jump_mono fun a w ⟨g', _, h⟩ => ⟨g', h⟩) (pass g a w hJ)))
end Go.Proofs.Ytoghikagooegbaa
