/- LineAll: the plain law: words that are got one by one. -/
import Derived.Test.YtmlopggainkoiaaDoorN4
set_option linter.unusedSimpArgs false
set_option linter.unusedVariables false
namespace Go.Proofs.YtmlopggainkoiaaDoor

theorem dropEnd_cons {x : Word} (y : Word) (l : List Word) : dropEnd (x :: y :: l) = x :: dropEnd (y :: l) := by
  unfold dropEnd
  rw [List.getLast?_cons_cons]
  cases h : (y :: l).getLast? with
  | none => simp at h
  | some z =>
    simp only
    split
    · rw [List.dropLast_cons_of_ne_nil (by simp)]
    · rfl
theorem dropEnd_one {x : Word} (h : endW x = true) : dropEnd [x] = [] := by unfold dropEnd; simp [h]
theorem dropEnd_non {x : Word} (h : endW x = false) (l : List Word) : dropEnd (x :: l) = x :: dropEnd l := by
  cases l with
  | nil => unfold dropEnd; simp [h]
  | cons y l => exact dropEnd_cons y l
/-- What is left of a cursor ahead of the k-th word. -/
inductive LeftAt (ws : List Word) (k : Nat) : Bool → List Word → Prop
  | shut : LeftAt ws k false (dropEnd (compK true (ws.drop k)))
  | word (y : Word) : 0 < k → ws[k - 1]? = some y → endW y = false → LeftAt ws k true (dropEnd (compK false (ws.drop k)))
  | stop (e y : Word) : endW e = true → 0 < k → ws[k - 1]? = some y → endW y = true → LeftAt ws k true (dropEnd (e :: compK true (ws.drop k)))
section
variable {ws : List Word} {k : Nat} {b : Bool} {l : List Word} {x : Word}
theorem LeftAt.end_ (h : LeftAt ws k b l) (hk : ws.drop k = []) : l = [] := by
  cases h with
  | shut => rw [hk]; rfl
  | word y _ _ _ => rw [hk]; rfl
  | stop e y he _ _ _ => rw [hk]; exact dropEnd_one he
theorem LeftAt.skip (h : LeftAt ws k b l) (hx : ws[k]? = some x) (he : endW x = true) : LeftAt ws (k + 1) b l := by
  have hd := drop_at hx
  cases h with
  | shut => rw [hd, compK_cons, if_pos ⟨rfl, he⟩]; exact .shut
  | word y _ _ _ => rw [hd, compK_cons, if_neg (by simp), he]; exact .stop x x he (by omega) (by simpa using hx) he
  | stop e y h1 _ _ _ => rw [hd, compK_cons, if_pos ⟨rfl, he⟩]; exact .stop e x h1 (by omega) (by simpa using hx) he
/-- A word that is no end is next. -/
theorem LeftAt.shut_next (h : LeftAt ws k false l) (hx : ws[k]? = some x) (he : endW x = false) : ∃ r, l = x :: r ∧ LeftAt ws (k + 1) true r := by
  have hd := drop_at hx
  cases h with
  | shut =>
    rw [hd, compK_cons, if_neg (by simp [he]), he, dropEnd_non he]
    exact ⟨_, rfl, .word x (by omega) (by simpa using hx) he⟩
theorem LeftAt.open_next (h : LeftAt ws k true l) (hx : ws[k]? = some x) (he : endW x = false) : 0 < k ∧ ∃ y, ws[k - 1]? = some y ∧ ∃ r, LeftAt ws (k + 1) true r ∧ ((endW y = false ∧ l = x :: r) ∨ (endW y = true ∧ ∃ e, endW e = true ∧ l = e :: x :: r)) := by
  have hd := drop_at hx
  cases h with
  | word y h0 hy hey =>
    refine ⟨h0, y, hy, _, .word x (by omega) (by simpa using hx) he, .inl ⟨hey, ?_⟩⟩
    rw [hd, compK_cons, if_neg (by simp), he, dropEnd_non he]
  | stop e y h1 h0 hy hey =>
    refine ⟨h0, y, hy, _, .word x (by omega) (by simpa using hx) he, .inr ⟨hey, e, h1, ?_⟩⟩
    rw [hd, compK_cons, if_neg (by simp [he]), he, dropEnd_cons, dropEnd_non he]
end
theorem numBad_bounds {s : ByteArray} (h : numBad s = false) : -1099511627776 ≤ numN s ∧ numN s ≤ 1099511627776 := by
  unfold numBad at h
  unfold numN
  split at h
  · rename_i v hv
    rw [hv]
    simp only [Bool.or_eq_false_iff, decide_eq_false_iff_not] at h
    simp only
    omega
  · cases h
theorem read_bounds (s : ByteArray) : ∀ x ∈ (readR s).words, x.kind = 2 → -1099511627776 ≤ x.n ∧ x.n ≤ 1099511627776 := by
  intro x hx h2
  by_cases he : (readR s).err = 0
  · obtain ⟨ws, hlx, hR, _⟩ := read_lexes he
    rw [hR] at hx
    obtain ⟨t, _, h⟩ := hlx.tok.1 x hx
    rcases h with h | h | h | h
    · omega
    · rw [← h.2.2.2]; exact numBad_bounds h.2.2.1
    · omega
    · omega
  · rw [(read_err s he).1] at hx; cases hx
end Go.Proofs.YtmlopggainkoiaaDoor
