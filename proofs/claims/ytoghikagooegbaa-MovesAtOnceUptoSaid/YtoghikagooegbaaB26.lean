/- Moves, as plain data: the program's and the document's. -/
import Derived.Test.YtoghikagooegbaaTypes26
set_option linter.unusedSimpArgs false
set_option linter.unusedVariables false
namespace Go.Proofs.Ytoghikagooegbaa

def okL (p : Loc) : Bool := decide (0 ≤ p.n) && decide (p.n < if p.slot = true then 400 else 64)
def spL (n : Int) : Loc := ⟨true, n⟩
def busyM (l : List Move) : List Move := l.filter fun m => decide (m.src ≠ m.dst)
/-- Does one go from a place? -/
def goesB (l : List Move) (p : Loc) : Bool := l.any fun x => decide (x.src = p)
def firstB (l : List Move) : Bool := l.all (fun m => okL m.src && okL m.dst) && decide ((l.map Move.dst).Nodup)
def slotB (l : List Move) (m : Move) : Bool := !(m.dst.slot && (m.src.slot || goesB l m.dst))
def soundM (l : List Move) : Bool := firstB l && (busyM l).all (slotB (busyM l))
def namesM (l : List Move) (p : Loc) : Bool := l.any fun m => decide (m.src = p) || decide (m.dst = p)
def rightM' (l : List Move) (s : Loc) : Bool := okL s && soundM l && !namesM l s
/-- The document's. -/
def clashB (x : Move) (y : Move) (same : Bool) : Bool := (!same && decide (y.dst = x.dst)) || (x.dst.slot && decide (x.src ≠ x.dst) && decide (y.src = x.dst) && decide (y.src ≠ y.dst))
def aloneB (s : Loc) (x : Move) : Bool := okL x.src && okL x.dst && !decide (x.src = s) && !decide (x.dst = s) && !(decide (x.src ≠ x.dst) && x.src.slot && x.dst.slot)
def atB (l : List Move) (i : Nat) (x : Move) (k : Nat) : Bool := match l[k]? with | some y => !clashB x y (decide (k = i)) | none => true
def rowAt26 (l : List Move) (s : Loc) (i : Nat) : Bool := match l[i]? with | some x => aloneB s x && (List.range l.length).all (atB l i x) | none => true
def rightD (l : List Move) (s : Loc) : Bool := okL s && (List.range l.length).all (rowAt26 l s)
theorem nodup_at {α : Type} {l : List α} : l.Nodup ↔ ∀ (i j : Nat) (x y : α), l[i]? = some x → l[j]? = some y → i ≠ j → x ≠ y := by
  unfold List.Nodup
  rw [List.pairwise_iff_getElem]
  constructor
  · intro h i j x y hi hj hne e
    obtain ⟨li, ei⟩ := List.getElem?_eq_some_iff.1 hi
    obtain ⟨lj, ej⟩ := List.getElem?_eq_some_iff.1 hj
    rcases Nat.lt_or_gt_of_ne hne with hl | hl
    · exact h i j li lj hl (ei.trans (e.trans ej.symm))
    · exact h j i lj li hl (ej.trans (e.symm.trans ei.symm))
  · intro h i j hi hj hl e
    exact h i j l[i] l[j] (List.getElem?_eq_getElem hi) (List.getElem?_eq_getElem hj) (by omega) e
structure Sound (l : List Move) (s : Loc) : Prop where
  spare : okL s = true
  ok : ∀ m ∈ l, okL m.src = true ∧ okL m.dst = true
  nd : (l.map Move.dst).Nodup
  slot : ∀ m ∈ l, m.src ≠ m.dst → m.dst.slot = true → m.src.slot = false ∧ ∀ x ∈ l, x.src ≠ x.dst → x.src ≠ m.dst
  free : ∀ m ∈ l, m.src ≠ s ∧ m.dst ≠ s
theorem rightM_iff {l : List Move} {s : Loc} : rightM' l s = true ↔ Sound l s := by
  unfold rightM' soundM firstB namesM
  simp only [Bool.and_eq_true, List.all_eq_true, decide_eq_true_eq, Bool.not_eq_true', List.any_eq_false, Bool.or_eq_true]
  constructor
  · rintro ⟨⟨h1, ⟨h2, h3⟩, h4⟩, h5⟩
    refine ⟨h1, h2, h3, fun m hm hne hs => ?_, fun m hm => ⟨fun e => h5 m hm (.inl e), fun e => h5 m hm (.inr e)⟩⟩
    have h := h4 m (List.mem_filter.2 ⟨hm, by simpa using hne⟩)
    unfold slotB goesB at h
    simp only [hs, Bool.true_and, Bool.not_eq_true', Bool.or_eq_false_iff, List.any_eq_false, decide_eq_true_eq] at h
    exact ⟨h.1, fun x hx hxn => h.2 x (List.mem_filter.2 ⟨hx, by simpa using hxn⟩)⟩
  · intro h
    refine ⟨⟨h.spare, ⟨h.ok, h.nd⟩, fun m hm => ?_⟩, fun m hm => ?_⟩
    · obtain ⟨hm, hne⟩ := List.mem_filter.1 hm
      unfold slotB goesB
      cases hs : m.dst.slot with
      | false => rfl
      | true =>
        obtain ⟨h1, h2⟩ := h.slot m hm (by simpa using hne) hs
        simp only [h1, Bool.false_or, Bool.true_and, Bool.not_eq_true', List.any_eq_false, decide_eq_true_eq]
        intro x hx
        obtain ⟨hx, hxn⟩ := List.mem_filter.1 hx
        exact h2 x hx (by simpa using hxn)
    · have := h.free m hm
      simp [this.1, this.2]
theorem rightD_iff {l : List Move} {s : Loc} : rightD l s = true ↔ Sound l s := by
  unfold rightD
  simp only [Bool.and_eq_true, List.all_eq_true, List.mem_range]
  constructor
  · rintro ⟨h0, h⟩
    have key : ∀ (i : Nat) (x : Move), l[i]? = some x → aloneB s x = true ∧ ∀ (k : Nat) (y : Move), l[k]? = some y → clashB x y (decide (k = i)) = false := fun i x hi => by
      have hl := (List.getElem?_eq_some_iff.1 hi).1
      have := h i hl
      unfold rowAt26 at this
      rw [hi] at this
      simp only [Bool.and_eq_true, List.all_eq_true, List.mem_range] at this
      refine ⟨this.1, fun k y hk => ?_⟩
      have h2 := this.2 k (List.getElem?_eq_some_iff.1 hk).1
      unfold atB at h2
      rw [hk] at h2
      simpa using h2
    have al : ∀ m ∈ l, aloneB s m = true := fun m hm => by
      obtain ⟨i, hi⟩ := List.mem_iff_getElem?.1 hm
      exact (key i m hi).1
    refine ⟨h0, fun m hm => ?_, nodup_at.2 fun i j x y hi hj hne => ?_, fun m hm hne hs => ⟨?_, fun x hx hxn e => ?_⟩, fun m hm => ?_⟩
    · have := al m hm
      unfold aloneB at this
      simp only [Bool.and_eq_true] at this
      exact ⟨this.1.1.1.1, this.1.1.1.2⟩
    · rw [List.getElem?_map] at hi hj
      obtain ⟨m, hm, rfl⟩ := Option.map_eq_some_iff.1 hi
      obtain ⟨m', hm', rfl⟩ := Option.map_eq_some_iff.1 hj
      have := (key i m hm).2 j m' hm'
      unfold clashB at this
      simp only [Bool.or_eq_false_iff, Bool.and_eq_false_iff] at this
      intro e
      rcases this.1 with h | h
      · simp at h; omega
      · simp at h; exact h e.symm
    · have := al m hm
      unfold aloneB at this
      simp only [Bool.and_eq_true, hs, Bool.not_eq_true', Bool.and_eq_false_iff] at this
      rcases this.2 with h | h
      · rcases h with h | h
        · simp at h; exact absurd h hne
        · exact h
      · cases h
    · obtain ⟨i, hi⟩ := List.mem_iff_getElem?.1 hm
      obtain ⟨k, hk⟩ := List.mem_iff_getElem?.1 hx
      have := (key i m hi).2 k x hk
      unfold clashB at this
      simp [hs, hne, e] at this
      exact hxn (e.trans this.2)
    · have := al m hm
      unfold aloneB at this
      simp at this
      exact ⟨this.1.1.2, this.1.2⟩
  · intro h
    refine ⟨h.spare, fun i hi => ?_⟩
    unfold rowAt26
    have hx : l[i]? = some l[i] := List.getElem?_eq_getElem hi
    rw [hx]
    have hm : l[i] ∈ l := List.getElem_mem hi
    simp only [Bool.and_eq_true, List.all_eq_true, List.mem_range]
    refine ⟨?_, fun k hk => ?_⟩
    · unfold aloneB
      have h1 := h.ok _ hm; have h2 := h.free _ hm
      simp only [h1.1, h1.2, h2.1, h2.2, Bool.true_and, decide_false, Bool.not_false, Bool.not_eq_true', Bool.and_eq_false_iff]
      by_cases hne : l[i].src = l[i].dst
      · left; left; simpa using hne
      · cases hs : l[i].dst.slot with
        | false => right; rfl
        | true => left; right; exact (h.slot _ hm hne hs).1
    · unfold atB
      have hy : l[k]? = some l[k] := List.getElem?_eq_getElem hk
      rw [hy]
      have hm' : l[k] ∈ l := List.getElem_mem hk
      simp only [Bool.not_eq_true']
      unfold clashB
      simp only [Bool.or_eq_false_iff]
      constructor
      · by_cases hki : k = i
        · simp [hki]
        · have := nodup_at.1 h.nd k i l[k].dst l[i].dst (by rw [List.getElem?_map, hy]; rfl) (by rw [List.getElem?_map, hx]; rfl) hki
          simp [this]
      · cases hs : l[i].dst.slot with
        | false => simp
        | true =>
          by_cases hne : l[i].src = l[i].dst
          · simp [hne]
          · by_cases hne' : l[k].src = l[k].dst
            · simp [hne']
            · have := (h.slot _ hm hne hs).2 _ hm' hne'
              simp [this]
theorem rightD_eq (l : List Move) (s : Loc) : rightD l s = rightM' l s := by
  rw [Bool.eq_iff_iff, rightD_iff, rightM_iff]
/-- The next move of a row, and what is left. -/
def readyM (l : List Move) : Option Nat := l.findIdx? fun m => !goesB l m.dst
def redir (p s : Loc) (m : Move) : Move := if m.src = p then ⟨s, m.dst⟩ else m
def nxtM (s : Loc) (l : List Move) : Option (Move × List Move) :=
  match readyM l with
  | some k => (l[k]?).map fun m => (m, l.eraseIdx k)
  | none => l.head?.map fun m => (⟨m.dst, s⟩, l.map (redir m.dst s))
def rowN (s : Loc) : Nat → List Move → List Move
  | 0, _ => []
  | f + 1, l => match nxtM s l with | none => [] | some (m, l') => m :: rowN s f l'
def measM (l : List Move) : Nat := 2 * l.length + if (readyM l).isNone then 1 else 0
def rowOf (s : Loc) (l : List Move) : List Move := rowN s (2 * l.length + 1) l
theorem readyM_some {l : List Move} {k : Nat} (h : readyM l = some k) : ∃ m, l[k]? = some m ∧ goesB l m.dst = false := by
  unfold readyM at h
  obtain ⟨hk, h1, _⟩ := List.findIdx?_eq_some_iff_getElem.1 h
  exact ⟨l[k], List.getElem?_eq_getElem hk, by simpa using h1⟩
theorem readyM_none {l : List Move} (h : readyM l = none) : ∀ m ∈ l, goesB l m.dst = true := by
  intro m hm
  unfold readyM at h
  have := List.findIdx?_eq_none_iff.1 h m hm
  simpa using this
theorem goesB_iff {l : List Move} {p : Loc} : goesB l p = true ↔ ∃ x ∈ l, x.src = p := by unfold goesB; simp
theorem goesB_false {l : List Move} {p : Loc} : goesB l p = false ↔ ∀ x ∈ l, x.src ≠ p := by unfold goesB; simp
theorem nxtM_meas {s : Loc} {l l' : List Move} {m : Move} (hs : ∀ x ∈ l, x.dst ≠ s) (h : nxtM s l = some (m, l')) : measM l' < measM l := by
  unfold nxtM at h
  split at h
  · rename_i k hk
    obtain ⟨x, hx, hg⟩ := readyM_some hk
    rw [hx] at h
    injection h with h
    injection h with h1 h2
    subst h1 h2
    have hl := (List.getElem?_eq_some_iff.1 hx).1
    unfold measM
    rw [List.length_eraseIdx_of_lt hl]
    split <;> omega
  · rename_i hn
    cases l with
    | nil => cases h
    | cons x t =>
      injection h with h
      injection h with h1 h2
      have hr : (readyM l').isNone = false := by
        rw [← h2]
        cases hq : readyM ((x :: t).map (redir x.dst s)) with
        | some _ => rfl
        | none =>
          have := readyM_none hq (redir x.dst s x) (by simp)
          rw [goesB_iff] at this
          obtain ⟨y, hy, he⟩ := this
          obtain ⟨z, hz, rfl⟩ := List.mem_map.1 hy
          have hd : (redir x.dst s x).dst = x.dst := by unfold redir; split <;> rfl
          rw [hd] at he
          unfold redir at he
          split at he
          · exact absurd he.symm (hs x (by simp))
          · rename_i hne; exact absurd he hne
      unfold measM
      rw [hr, hn]
      have : l'.length = (x :: t).length := by rw [← h2, List.length_map]
      rw [this]
      simp
theorem nxtM_dst {s : Loc} {l l' : List Move} {m : Move} (h : nxtM s l = some (m, l')) : ∀ y ∈ l', ∃ x ∈ l, y.dst = x.dst := by
  unfold nxtM at h
  split at h
  · rename_i k hk
    obtain ⟨x, hx, hg⟩ := readyM_some hk
    rw [hx] at h
    injection h with h
    injection h with h1 h2
    intro y hy
    rw [← h2] at hy
    exact ⟨y, List.mem_of_mem_eraseIdx hy, rfl⟩
  · cases l with
    | nil => cases h
    | cons x t =>
      injection h with h
      injection h with h1 h2
      intro y hy
      rw [← h2] at hy
      obtain ⟨z, hz, rfl⟩ := List.mem_map.1 hy
      exact ⟨z, hz, by unfold redir; split <;> rfl⟩
theorem rowN_enough {s : Loc} : ∀ (f g : Nat) (l : List Move), (∀ x ∈ l, x.dst ≠ s) → measM l ≤ f → measM l ≤ g → (l = [] ∨ 0 < measM l) → rowN s f l = rowN s g l := by
  intro f
  induction f with
  | zero =>
    intro g l hs hf hg h0
    have : l = [] := by
      rcases h0 with h | h
      · exact h
      · omega
    subst this
    cases g with
    | zero => rfl
    | succ g => rfl
  | succ f ih =>
    intro g l hs hf hg h0
    cases hn : nxtM s l with
    | none =>
      cases g with
      | zero => unfold rowN; rw [hn]
      | succ g => unfold rowN; rw [hn]
    | some p =>
      obtain ⟨m, l'⟩ := p
      have hm := nxtM_meas hs hn
      have hs' : ∀ x ∈ l', x.dst ≠ s := fun y hy => by
        obtain ⟨x, hx, e⟩ := nxtM_dst hn y hy
        rw [e]; exact hs x hx
      cases g with
      | zero => omega
      | succ g =>
        unfold rowN
        rw [hn]
        simp only
        rw [ih g l' hs' (by omega) (by omega) (by
          cases l' with
          | nil => left; rfl
          | cons y t => right; unfold measM; simp; omega)]
theorem measM_le (l : List Move) : measM l ≤ 2 * l.length + 1 := by unfold measM; split <;> omega
theorem rowOf_nil (s : Loc) : rowOf s [] = [] := rfl
theorem rowOf_cons {s : Loc} {l l' : List Move} {m : Move} (hs : ∀ x ∈ l, x.dst ≠ s) (h : nxtM s l = some (m, l')) : rowOf s l = m :: rowOf s l' := by
  have hm := nxtM_meas hs h
  have hs' : ∀ x ∈ l', x.dst ≠ s := fun y hy => by
    obtain ⟨x, hx, e⟩ := nxtM_dst h y hy
    rw [e]; exact hs x hx
  have hl := measM_le l
  have hl' := measM_le l'
  unfold rowOf
  conv => lhs; unfold rowN
  rw [h]
  simp only
  rw [rowN_enough _ (2 * l'.length + 1) l' hs' (by omega) (by omega) (by
    cases l' with
    | nil => left; rfl
    | cons y t => right; unfold measM; simp; omega)]
theorem nxtM_none {s : Loc} {l : List Move} (h : nxtM s l = none) : l = [] := by
  unfold nxtM at h
  split at h
  · rename_i k hk
    obtain ⟨x, hx, hg⟩ := readyM_some hk
    rw [hx] at h
    cases h
  · cases l with
    | nil => rfl
    | cons x t => cases h
/-- An instruction. -/
def insM (m : Move) : Ins := if m.dst.slot = true then ⟨16, 0, m.src.n, 0, m.dst.n, 0, [], 0⟩ else if m.src.slot = true then ⟨17, m.dst.n, 0, 0, m.src.n, 0, [], 0⟩ else ⟨15, m.dst.n, m.src.n, 0, 0, 0, [], 0⟩
end Go.Proofs.Ytoghikagooegbaa
