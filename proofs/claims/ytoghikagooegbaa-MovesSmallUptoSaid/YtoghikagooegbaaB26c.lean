/- Moves: busy ones are right too; another slot to spare: the instructions. -/
import Derived.Test.YtoghikagooegbaaN8
set_option linter.unusedSimpArgs false
set_option linter.unusedVariables false
namespace Go.Proofs.Ytoghikagooegbaa

theorem sound_busy {l : List Move} {s : Loc} (h : Sound l s) : Sound (busyM l) s :=
  ⟨h.spare, fun m hm => h.ok m (mem_busy.1 hm).1, h.nd.sublist (List.Sublist.map _ List.filter_sublist), fun m hm hne hs => ⟨(h.slot m (mem_busy.1 hm).1 hne hs).1, fun x hx hxn => (h.slot m (mem_busy.1 hm).1 hne hs).2 x (mem_busy.1 hx).1 hxn⟩, fun m hm => h.free m (mem_busy.1 hm).1⟩
def fixI (t o : Int) (x : Ins) : Ins := if x.op ≠ 15 ∧ x.imm = t then { x with imm := o } else x
theorem fix_ins {m : Move} {t o : Int} (h : m.dst.slot = true → m.src.slot = false) : fixI t o (insM m) = insM (subM (spL t) (spL o) m) := by
  obtain ⟨⟨s1, n1⟩, ⟨s2, n2⟩⟩ := m
  simp only at h
  cases s2
  · cases s1
    · simp [fixI, insM, subM, subL, spL]
    · by_cases e : n1 = t
      · subst e; simp [fixI, insM, subM, subL, spL]
      · simp [fixI, insM, subM, subL, spL, e]
  · have := h rfl
    subst this
    by_cases e : n2 = t
    · subst e; simp [fixI, insM, subM, subL, spL]
    · simp [fixI, insM, subM, subL, spL, e]
theorem put_ins {m : Move} {t : Int} : ((insM m).op = 16 ∧ (insM m).imm = t) ↔ m.dst = spL t := by
  obtain ⟨⟨s1, n1⟩, ⟨s2, n2⟩⟩ := m
  cases s2
  · cases s1 <;> simp [insM, spL]
  · simp [insM, spL]
end Go.Proofs.Ytoghikagooegbaa
