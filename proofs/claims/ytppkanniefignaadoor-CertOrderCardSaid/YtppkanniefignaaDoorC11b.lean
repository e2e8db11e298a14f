/- law28: how many words a text of a certificate has; what is read of a text that is too long. -/
import Derived.Test.YtppkanniefignaaDoorC11a
set_option linter.unusedSimpArgs false
set_option linter.unusedVariables false
namespace Go.Proofs.YtppkanniefignaaDoor
open Go.RowKit Go.Maps

theorem overT_len28 (s : ByteArray) (hs : s.size ≤ 262144) : leftC (overT s) ≤ 1099511627770 := by
  have h0 : (readR s).words.length ≤ 1099511627770 := by
    by_cases he : (readR s).err = 0
    · obtain ⟨ws, _, hR, _, _, ht⟩ := read_lexes he
      rw [hR]
      have := totL_len2 ws
      show ws.length ≤ _; omega
    · rw [(read_err s he).1]; simp
  have h1 : (overT s).ws.length ≤ 1099511627770 := by
    unfold overT
    split
    · exact Nat.zero_le _
    · have h2 := compK_len (readR s).words true
      have h3 : (dropEnd (compK true (readR s).words)).length ≤ (compK true (readR s).words).length := by
        unfold dropEnd
        split
        · split
          · simp
          · exact Nat.le_refl _
        · exact Nat.le_refl _
      simp only
      omega
  unfold leftC
  split <;> omega
end Go.Proofs.YtppkanniefignaaDoor
