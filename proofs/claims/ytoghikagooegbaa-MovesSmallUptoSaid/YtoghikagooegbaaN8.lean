/- Moves, as plain data: the program's and the document's. Moves: what a row does; another slot to spare. -/
import Derived.Test.YtoghikagooegbaaTypes26
set_option linter.unusedSimpArgs false
set_option linter.unusedVariables false
namespace Go.Proofs.Ytoghikagooegbaa

def okL (p : Loc) : Bool := decide (0 ≤ p.n) && decide (p.n < if p.slot = true then 400 else 64)
def spL (n : Int) : Loc := ⟨true, n⟩
def busyM (l : List Move) : List Move := l.filter fun m => decide (m.src ≠ m.dst)
/-- Does one go from a place? -/
def goesB (l : List Move) (p : Loc) : Bool := l.any fun x => decide (x.src = p)
def firstB (l : List Move) : Bool := l.all (fun m => okL m.src && okL m.dst) && decide ((l.map Move.dst).Nodup)
def slotB (l : List Move) (m : Move) : Bool := !(m.dst.slot && (m.src.slot || goesB l m.dst))
def soundM (l : List Move) : Bool := firstB l && (busyM l).all (slotB (busyM l))
def namesM (l : List Move) (p : Loc) : Bool := l.any fun m => decide (m.src = p) || decide (m.dst = p)
def rightM' (l : List Move) (s : Loc) : Bool := okL s && soundM l && !namesM l s
/-- The document's. -/
def clashB (x : Move) (y : Move) (same : Bool) : Bool := (!same && decide (y.dst = x.dst)) || (x.dst.slot && decide (x.src ≠ x.dst) && decide (y.src = x.dst) && decide (y.src ≠ y.dst))
def aloneB (s : Loc) (x : Move) : Bool := okL x.src && okL x.dst && !decide (x.src = s) && !decide (x.dst = s) && !(decide (x.src ≠ x.dst) && x.src.slot && x.dst.slot)
def atB (l : List Move) (i : Nat) (x : Move) (k : Nat) : Bool := match l[k]? with | some y => !clashB x y (decide (k = i)) | none => true
def rowAt26 (l : List Move) (s : Loc) (i : Nat) : Bool := match l[i]? with | some x => aloneB s x && (List.range l.length).all (atB l i x) | none => true
def rightD (l : List Move) (s : Loc) : Bool := okL s && (List.range l.length).all (rowAt26 l s)
theorem nodup_at {α : Type} {l : List α} : l.Nodup ↔ ∀ (i j : Nat) (x y : α), l[i]? = some x → l[j]? = some y → i ≠ j → x ≠ y := by
  unfold List.Nodup
  rw [List.pairwise_iff_getElem]
  constructor
  · intro h i j x y hi hj hne e
    obtain ⟨li, ei⟩ := List.getElem?_eq_some_iff.1 hi
    obtain ⟨lj, ej⟩ := List.getElem?_eq_some_iff.1 hj
    rcases Nat.lt_or_gt_of_ne hne with hl | hl
    · exact h i j li lj hl (ei.trans (e.trans ej.symm))
    · exact h j i lj li hl (ej.trans (e.symm.trans ei.symm))
  · intro h i j hi hj hl e
    exact h i j l[i] l[j] (List.getElem?_eq_getElem hi) (List.getElem?_eq_getElem hj) (by omega) e
structure Sound (l : List Move) (s : Loc) : Prop where
  spare : okL s = true
  ok : ∀ m ∈ l, okL m.src = true ∧ okL m.dst = true
  nd : (l.map Move.dst).Nodup
  slot : ∀ m ∈ l, m.src ≠ m.dst → m.dst.slot = true → m.src.slot = false ∧ ∀ x ∈ l, x.src ≠ x.dst → x.src ≠ m.dst
  free : ∀ m ∈ l, m.src ≠ s ∧ m.dst ≠ s
theorem rightM_iff {l : List Move} {s : Loc} : rightM' l s = true ↔ Sound l s := by
  unfold rightM' soundM firstB namesM
  simp only [Bool.and_eq_true, List.all_eq_true, decide_eq_true_eq, Bool.not_eq_true', List.any_eq_false, Bool.or_eq_true]
  constructor
  · rintro ⟨⟨h1, ⟨h2, h3⟩, h4⟩, h5⟩
    refine ⟨h1, h2, h3, fun m hm hne hs => ?_, fun m hm => ⟨fun e => h5 m hm (.inl e), fun e => h5 m hm (.inr e)⟩⟩
    have h := h4 m (List.mem_filter.2 ⟨hm, by simpa using hne⟩)
    unfold slotB goesB at h
    simp only [hs, Bool.true_and, Bool.not_eq_true', Bool.or_eq_false_iff, List.any_eq_false, decide_eq_true_eq] at h
    exact ⟨h.1, fun x hx hxn => h.2 x (List.mem_filter.2 ⟨hx, by simpa using hxn⟩)⟩
  · intro h
    refine ⟨⟨h.spare, ⟨h.ok, h.nd⟩, fun m hm => ?_⟩, fun m hm => ?_⟩
    · obtain ⟨hm, hne⟩ := List.mem_filter.1 hm
      unfold slotB goesB
      cases hs : m.dst.slot with
      | false => rfl
      | true =>
        obtain ⟨h1, h2⟩ := h.slot m hm (by simpa using hne) hs
        simp only [h1, Bool.false_or, Bool.true_and, Bool.not_eq_true', List.any_eq_false, decide_eq_true_eq]
        intro x hx
        obtain ⟨hx, hxn⟩ := List.mem_filter.1 hx
        exact h2 x hx (by simpa using hxn)
    · have := h.free m hm
      simp [this.1, this.2]
theorem rightD_iff {l : List Move} {s : Loc} : rightD l s = true ↔ Sound l s := by
  unfold rightD
  simp only [Bool.and_eq_true, List.all_eq_true, List.mem_range]
  constructor
  · rintro ⟨h0, h⟩
    have key : ∀ (i : Nat) (x : Move), l[i]? = some x → aloneB s x = true ∧ ∀ (k : Nat) (y : Move), l[k]? = some y → clashB x y (decide (k = i)) = false := fun i x hi => by
      have hl := (List.getElem?_eq_some_iff.1 hi).1
      have := h i hl
      unfold rowAt26 at this
      rw [hi] at this
      simp only [Bool.and_eq_true, List.all_eq_true, List.mem_range] at this
      refine ⟨this.1, fun k y hk => ?_⟩
      have h2 := this.2 k (List.getElem?_eq_some_iff.1 hk).1
      unfold atB at h2
      rw [hk] at h2
      simpa using h2
    have al : ∀ m ∈ l, aloneB s m = true := fun m hm => by
      obtain ⟨i, hi⟩ := List.mem_iff_getElem?.1 hm
      exact (key i m hi).1
    refine ⟨h0, fun m hm => ?_, nodup_at.2 fun i j x y hi hj hne => ?_, fun m hm hne hs => ⟨?_, fun x hx hxn e => ?_⟩, fun m hm => ?_⟩
    · have := al m hm
      unfold aloneB at this
      simp only [Bool.and_eq_true] at this
      exact ⟨this.1.1.1.1, this.1.1.1.2⟩
    · rw [List.getElem?_map] at hi hj
      obtain ⟨m, hm, rfl⟩ := Option.map_eq_some_iff.1 hi
      obtain ⟨m', hm', rfl⟩ := Option.map_eq_some_iff.1 hj
      have := (key i m hm).2 j m' hm'
      unfold clashB at this
      simp only [Bool.or_eq_false_iff, Bool.and_eq_false_iff] at this
      intro e
      rcases this.1 with h | h
      · simp at h; omega
      · simp at h; exact h e.symm
    · have := al m hm
      unfold aloneB at this
      simp only [Bool.and_eq_true, hs, Bool.not_eq_true', Bool.and_eq_false_iff] at this
      rcases this.2 with h | h
      · rcases h with h | h
        · simp at h; exact absurd h hne
        · exact h
      · cases h
    · obtain ⟨i, hi⟩ := List.mem_iff_getElem?.1 hm
      obtain ⟨k, hk⟩ := List.mem_iff_getElem?.1 hx
      have := (key i m hi).2 k x hk
      unfold clashB at this
      simp [hs, hne, e] at this
      exact hxn (e.trans this.2)
    · have := al m hm
      unfold aloneB at this
      simp at this
      exact ⟨this.1.1.2, this.1.2⟩
  · intro h
    refine ⟨h.spare, fun i hi => ?_⟩
    unfold rowAt26
    have hx : l[i]? = some l[i] := List.getElem?_eq_getElem hi
    rw [hx]
    have hm : l[i] ∈ l := List.getElem_mem hi
    simp only [Bool.and_eq_true, List.all_eq_true, List.mem_range]
    refine ⟨?_, fun k hk => ?_⟩
    · unfold aloneB
      have h1 := h.ok _ hm; have h2 := h.free _ hm
      simp only [h1.1, h1.2, h2.1, h2.2, Bool.true_and, decide_false, Bool.not_false, Bool.not_eq_true', Bool.and_eq_false_iff]
      by_cases hne : l[i].src = l[i].dst
      · left; left; simpa using hne
      · cases hs : l[i].dst.slot with
        | false => right; rfl
        | true => left; right; exact (h.slot _ hm hne hs).1
    · unfold atB
      have hy : l[k]? = some l[k] := List.getElem?_eq_getElem hk
      rw [hy]
      have hm' : l[k] ∈ l := List.getElem_mem hk
      simp only [Bool.not_eq_true']
      unfold clashB
      simp only [Bool.or_eq_false_iff]
      constructor
      · by_cases hki : k = i
        · simp [hki]
        · have := nodup_at.1 h.nd k i l[k].dst l[i].dst (by rw [List.getElem?_map, hy]; rfl) (by rw [List.getElem?_map, hx]; rfl) hki
          simp [this]
      · cases hs : l[i].dst.slot with
        | false => simp
        | true =>
          by_cases hne : l[i].src = l[i].dst
          · simp [hne]
          · by_cases hne' : l[k].src = l[k].dst
            · simp [hne']
            · have := (h.slot _ hm hne hs).2 _ hm' hne'
              simp [this]
theorem rightD_eq (l : List Move) (s : Loc) : rightD l s = rightM' l s := by
  rw [Bool.eq_iff_iff, rightD_iff, rightM_iff]
/-- The next move of a row, and what is left. -/
def readyM (l : List Move) : Option Nat := l.findIdx? fun m => !goesB l m.dst
def redir (p s : Loc) (m : Move) : Move := if m.src = p then ⟨s, m.dst⟩ else m
def nxtM (s : Loc) (l : List Move) : Option (Move × List Move) :=
  match readyM l with
  | some k => (l[k]?).map fun m => (m, l.eraseIdx k)
  | none => l.head?.map fun m => (⟨m.dst, s⟩, l.map (redir m.dst s))
def rowN (s : Loc) : Nat → List Move → List Move
  | 0, _ => []
  | f + 1, l => match nxtM s l with | none => [] | some (m, l') => m :: rowN s f l'
def measM (l : List Move) : Nat := 2 * l.length + if (readyM l).isNone then 1 else 0
def rowOf (s : Loc) (l : List Move) : List Move := rowN s (2 * l.length + 1) l
theorem readyM_some {l : List Move} {k : Nat} (h : readyM l = some k) : ∃ m, l[k]? = some m ∧ goesB l m.dst = false := by
  unfold readyM at h
  obtain ⟨hk, h1, _⟩ := List.findIdx?_eq_some_iff_getElem.1 h
  exact ⟨l[k], List.getElem?_eq_getElem hk, by simpa using h1⟩
theorem readyM_none {l : List Move} (h : readyM l = none) : ∀ m ∈ l, goesB l m.dst = true := by
  intro m hm
  unfold readyM at h
  have := List.findIdx?_eq_none_iff.1 h m hm
  simpa using this
theorem goesB_iff {l : List Move} {p : Loc} : goesB l p = true ↔ ∃ x ∈ l, x.src = p := by unfold goesB; simp
theorem goesB_false {l : List Move} {p : Loc} : goesB l p = false ↔ ∀ x ∈ l, x.src ≠ p := by unfold goesB; simp
theorem nxtM_meas {s : Loc} {l l' : List Move} {m : Move} (hs : ∀ x ∈ l, x.dst ≠ s) (h : nxtM s l = some (m, l')) : measM l' < measM l := by
  unfold nxtM at h
  split at h
  · rename_i k hk
    obtain ⟨x, hx, hg⟩ := readyM_some hk
    rw [hx] at h
    injection h with h
    injection h with h1 h2
    subst h1 h2
    have hl := (List.getElem?_eq_some_iff.1 hx).1
    unfold measM
    rw [List.length_eraseIdx_of_lt hl]
    split <;> omega
  · rename_i hn
    cases l with
    | nil => cases h
    | cons x t =>
      injection h with h
      injection h with h1 h2
      have hr : (readyM l').isNone = false := by
        rw [← h2]
        cases hq : readyM ((x :: t).map (redir x.dst s)) with
        | some _ => rfl
        | none =>
          have := readyM_none hq (redir x.dst s x) (by simp)
          rw [goesB_iff] at this
          obtain ⟨y, hy, he⟩ := this
          obtain ⟨z, hz, rfl⟩ := List.mem_map.1 hy
          have hd : (redir x.dst s x).dst = x.dst := by unfold redir; split <;> rfl
          rw [hd] at he
          unfold redir at he
          split at he
          · exact absurd he.symm (hs x (by simp))
          · rename_i hne; exact absurd he hne
      unfold measM
      rw [hr, hn]
      have : l'.length = (x :: t).length := by rw [← h2, List.length_map]
      rw [this]
      simp
theorem nxtM_dst {s : Loc} {l l' : List Move} {m : Move} (h : nxtM s l = some (m, l')) : ∀ y ∈ l', ∃ x ∈ l, y.dst = x.dst := by
  unfold nxtM at h
  split at h
  · rename_i k hk
    obtain ⟨x, hx, hg⟩ := readyM_some hk
    rw [hx] at h
    injection h with h
    injection h with h1 h2
    intro y hy
    rw [← h2] at hy
    exact ⟨y, List.mem_of_mem_eraseIdx hy, rfl⟩
  · cases l with
    | nil => cases h
    | cons x t =>
      injection h with h
      injection h with h1 h2
      intro y hy
      rw [← h2] at hy
      obtain ⟨z, hz, rfl⟩ := List.mem_map.1 hy
      exact ⟨z, hz, by unfold redir; split <;> rfl⟩
theorem rowN_enough {s : Loc} : ∀ (f g : Nat) (l : List Move), (∀ x ∈ l, x.dst ≠ s) → measM l ≤ f → measM l ≤ g → (l = [] ∨ 0 < measM l) → rowN s f l = rowN s g l := by
  intro f
  induction f with
  | zero =>
    intro g l hs hf hg h0
    have : l = [] := by
      rcases h0 with h | h
      · exact h
      · omega
    subst this
    cases g with
    | zero => rfl
    | succ g => rfl
  | succ f ih =>
    intro g l hs hf hg h0
    cases hn : nxtM s l with
    | none =>
      cases g with
      | zero => unfold rowN; rw [hn]
      | succ g => unfold rowN; rw [hn]
    | some p =>
      obtain ⟨m, l'⟩ := p
      have hm := nxtM_meas hs hn
      have hs' : ∀ x ∈ l', x.dst ≠ s := fun y hy => by
        obtain ⟨x, hx, e⟩ := nxtM_dst hn y hy
        rw [e]; exact hs x hx
      cases g with
      | zero => omega
      | succ g =>
        unfold rowN
        rw [hn]
        simp only
        rw [ih g l' hs' (by omega) (by omega) (by
          cases l' with
          | nil => left; rfl
          | cons y t => right; unfold measM; simp; omega)]
theorem measM_le (l : List Move) : measM l ≤ 2 * l.length + 1 := by unfold measM; split <;> omega
theorem rowOf_nil (s : Loc) : rowOf s [] = [] := rfl
theorem rowOf_cons {s : Loc} {l l' : List Move} {m : Move} (hs : ∀ x ∈ l, x.dst ≠ s) (h : nxtM s l = some (m, l')) : rowOf s l = m :: rowOf s l' := by
  have hm := nxtM_meas hs h
  have hs' : ∀ x ∈ l', x.dst ≠ s := fun y hy => by
    obtain ⟨x, hx, e⟩ := nxtM_dst h y hy
    rw [e]; exact hs x hx
  have hl := measM_le l
  have hl' := measM_le l'
  unfold rowOf
  conv => lhs; unfold rowN
  rw [h]
  simp only
  rw [rowN_enough _ (2 * l'.length + 1) l' hs' (by omega) (by omega) (by
    cases l' with
    | nil => left; rfl
    | cons y t => right; unfold measM; simp; omega)]
theorem nxtM_none {s : Loc} {l : List Move} (h : nxtM s l = none) : l = [] := by
  unfold nxtM at h
  split at h
  · rename_i k hk
    obtain ⟨x, hx, hg⟩ := readyM_some hk
    rw [hx] at h
    cases h
  · cases l with
    | nil => rfl
    | cons x t => cases h
/-- An instruction. -/
def insM (m : Move) : Ins := if m.dst.slot = true then ⟨16, 0, m.src.n, 0, m.dst.n, 0, [], 0⟩ else if m.src.slot = true then ⟨17, m.dst.n, 0, 0, m.src.n, 0, [], 0⟩ else ⟨15, m.dst.n, m.src.n, 0, 0, 0, [], 0⟩
end Go.Proofs.Ytoghikagooegbaa
set_option linter.unusedSimpArgs false
set_option linter.unusedVariables false
namespace Go.Proofs.Ytoghikagooegbaa

theorem rowOf_induct {s : Loc} {P : List Move → List Move → Prop} (h0 : P [] []) (h1 : ∀ L m L', (∀ x ∈ L, x.dst ≠ s) → nxtM s L = some (m, L') → P L' (rowOf s L') → P L (m :: rowOf s L')) :
    ∀ (n : Nat) (L : List Move), measM L ≤ n → (∀ x ∈ L, x.dst ≠ s) → P L (rowOf s L) := by
  intro n
  induction n with
  | zero =>
    intro L hn hs
    cases L with
    | nil => exact h0
    | cons x t => unfold measM at hn; simp at hn
  | succ n ih =>
    intro L hn hs
    cases hx : nxtM s L with
    | none =>
      have := nxtM_none hx
      subst this
      exact h0
    | some p =>
      obtain ⟨m, L'⟩ := p
      have hm := nxtM_meas hs hx
      rw [rowOf_cons hs hx]
      exact h1 L m L' hs hx (ih L' (by omega) fun y hy => by
        obtain ⟨x, hx', e⟩ := nxtM_dst hx y hy
        rw [e]; exact hs x hx')
theorem rowOf_ind {s : Loc} {P : List Move → List Move → Prop} (h0 : P [] []) (h1 : ∀ L m L', (∀ x ∈ L, x.dst ≠ s) → nxtM s L = some (m, L') → P L' (rowOf s L') → P L (m :: rowOf s L')) (L : List Move) (hs : ∀ x ∈ L, x.dst ≠ s) : P L (rowOf s L) :=
  rowOf_induct h0 h1 (measM L) L (Nat.le_refl _) hs
/-- The two ways. -/
theorem nxtM_cases {s : Loc} {L L' : List Move} {m : Move} (h : nxtM s L = some (m, L')) :
    (∃ k, L[k]? = some m ∧ goesB L m.dst = false ∧ L' = L.eraseIdx k) ∨ (∃ x, x ∈ L ∧ (∀ y ∈ L, goesB L y.dst = true) ∧ m = ⟨x.dst, s⟩ ∧ L' = L.map (redir x.dst s)) := by
  unfold nxtM at h
  split at h
  · rename_i k hk
    obtain ⟨x, hx, hg⟩ := readyM_some hk
    rw [hx] at h
    injection h with h
    injection h with h1 h2
    subst h1
    exact .inl ⟨k, hx, hg, h2.symm⟩
  · rename_i hn
    cases L with
    | nil => cases h
    | cons x t =>
      injection h with h
      injection h with h1 h2
      exact .inr ⟨x, by simp, readyM_none hn, h1.symm, h2.symm⟩
/-- What holds of what is left. -/
structure StatM (s : Loc) (L : List Move) : Prop where
  sp : okL s = true ∧ s.slot = true
  nd : (L.map Move.dst).Nodup
  fr : ∀ m ∈ L, m.dst ≠ s
  ne : ∀ m ∈ L, m.src ≠ m.dst
  ok : ∀ m ∈ L, okL m.src = true ∧ okL m.dst = true
  slot : ∀ m ∈ L, m.dst.slot = true → m.src.slot = false ∧ goesB L m.dst = false
theorem mem_busy {l : List Move} {m : Move} : m ∈ busyM l ↔ m ∈ l ∧ m.src ≠ m.dst := by unfold busyM; rw [List.mem_filter]; simp
theorem busy_busy (l : List Move) : busyM (busyM l) = busyM l := by unfold busyM; rw [List.filter_filter]; simp
theorem StatM.of {l : List Move} {s : Loc} (h : Sound l s) (hs : s.slot = true) : StatM s (busyM l) := by
  refine ⟨⟨h.spare, hs⟩, ?_, fun m hm => (h.free m (mem_busy.1 hm).1).2, fun m hm => (mem_busy.1 hm).2, fun m hm => h.ok m (mem_busy.1 hm).1, fun m hm hd => ?_⟩
  · exact h.nd.sublist (List.Sublist.map _ List.filter_sublist)
  · obtain ⟨hm, hne⟩ := mem_busy.1 hm
    obtain ⟨h1, h2⟩ := h.slot m hm hne hd
    refine ⟨h1, goesB_false.2 fun x hx => ?_⟩
    obtain ⟨hx, hxn⟩ := mem_busy.1 hx
    exact h2 x hx hxn
theorem redir_dst (p s : Loc) (m : Move) : (redir p s m).dst = m.dst := by unfold redir; split <;> rfl
theorem redir_src (p s : Loc) (m : Move) : (redir p s m).src = s ∨ (redir p s m).src = m.src ∧ m.src ≠ p := by
  unfold redir; split
  · exact .inl rfl
  · exact .inr ⟨rfl, by assumption⟩
theorem StatM.next {s : Loc} {L L' : List Move} {m : Move} (S : StatM s L) (h : nxtM s L = some (m, L')) : StatM s L' ∧ (okL m.src = true ∧ okL m.dst = true) ∧ (m.dst.slot = true → m.src.slot = false) := by
  rcases nxtM_cases h with ⟨k, hk, hg, rfl⟩ | ⟨x, hx, hall, rfl, rfl⟩
  · have hm := List.mem_of_getElem? hk
    have hsub : ∀ y ∈ L.eraseIdx k, y ∈ L := fun y hy => List.mem_of_mem_eraseIdx hy
    refine ⟨⟨S.sp, S.nd.sublist (List.Sublist.map _ (List.eraseIdx_sublist _ _)), fun y hy => S.fr y (hsub y hy), fun y hy => S.ne y (hsub y hy), fun y hy => S.ok y (hsub y hy), fun y hy hd => ?_⟩, S.ok m hm, fun hd => (S.slot m hm hd).1⟩
    obtain ⟨h1, h2⟩ := S.slot y (hsub y hy) hd
    exact ⟨h1, goesB_false.2 fun z hz => goesB_false.1 h2 z (hsub z hz)⟩
  · have hns : ∀ y ∈ L, y.dst.slot = false := fun y hy => by
      cases hd : y.dst.slot with
      | false => rfl
      | true =>
        have h1 := (S.slot y hy hd).2
        rw [hall y hy] at h1
        cases h1
    refine ⟨⟨S.sp, ?_, fun y hy => ?_, fun y hy => ?_, fun y hy => ?_, fun y hy hd => ?_⟩, ⟨(S.ok x hx).2, S.sp.1⟩, fun _ => hns x hx⟩
    · rw [List.map_map]
      have : (Move.dst ∘ redir x.dst s) = Move.dst := by funext y; exact redir_dst _ _ _
      rw [this]; exact S.nd
    · obtain ⟨z, hz, rfl⟩ := List.mem_map.1 hy
      rw [redir_dst]; exact S.fr z hz
    · obtain ⟨z, hz, rfl⟩ := List.mem_map.1 hy
      rw [redir_dst]
      rcases redir_src x.dst s z with e | ⟨e, _⟩
      · rw [e]; exact fun h => S.fr z hz h.symm
      · rw [e]; exact S.ne z hz
    · obtain ⟨z, hz, rfl⟩ := List.mem_map.1 hy
      rw [redir_dst]
      rcases redir_src x.dst s z with e | ⟨e, _⟩
      · rw [e]; exact ⟨S.sp.1, (S.ok z hz).2⟩
      · rw [e]; exact S.ok z hz
    · obtain ⟨z, hz, rfl⟩ := List.mem_map.1 hy
      rw [redir_dst] at hd
      rw [hns z hz] at hd
      cases hd
/-- As many as are busy, and one for each ring. -/
def ringsN (s : Loc) (r : List Move) : Nat := r.countP fun m => decide (m.dst = s)
theorem rowOf_len {s : Loc} (L : List Move) (hs : ∀ x ∈ L, x.dst ≠ s) : (rowOf s L).length = L.length + ringsN s (rowOf s L) := by
  refine rowOf_ind (P := fun L r => r.length = L.length + ringsN s r) rfl (fun L m L' hs h ih => ?_) L hs
  unfold ringsN at ih ⊢
  rw [List.length_cons, List.countP_cons]
  rcases nxtM_cases h with ⟨k, hk, hg, rfl⟩ | ⟨x, hx, hall, rfl, rfl⟩
  · have hl := (List.getElem?_eq_some_iff.1 hk).1
    have : m.dst ≠ s := hs m (List.mem_of_getElem? hk)
    rw [List.length_eraseIdx_of_lt hl] at ih
    simp only [this, decide_false, Bool.false_eq_true, if_false]
    omega
  · rw [List.length_map] at ih
    simp only [decide_true, if_true]
    omega
/-- All that a row does is right. -/
theorem row_ok {s : Loc} (L : List Move) (S : StatM s L) : ∀ m ∈ rowOf s L, (okL m.src = true ∧ okL m.dst = true) ∧ (m.dst.slot = true → m.src.slot = false) := by
  refine rowOf_ind (P := fun L r => StatM s L → ∀ m ∈ r, (okL m.src = true ∧ okL m.dst = true) ∧ (m.dst.slot = true → m.src.slot = false)) (fun _ m hm => by cases hm) (fun L m L' hs h ih S y hy => ?_) L S.fr S
  obtain ⟨S', h1, h2⟩ := S.next h
  rcases List.mem_cons.1 hy with rfl | hy
  · exact ⟨h1, h2⟩
  · exact ih S' y hy
theorem sub_len {α : Type} [DecidableEq α] : ∀ (d e : List α), d.Nodup → (∀ x ∈ d, x ∈ e) → d.length ≤ e.length := by
  intro d
  induction d with
  | nil => intro e _ _; exact Nat.zero_le _
  | cons a d ih =>
    intro e hd hs
    obtain ⟨ha, hd⟩ := List.nodup_cons.1 hd
    have := ih (e.erase a) hd fun x hx => (List.mem_erase_of_ne (fun h => ha (by rw [← h]; exact hx))).2 (hs x (by simp [hx]))
    rw [List.length_erase_of_mem (hs a (by simp))] at this
    have hpos : 0 < e.length := List.length_pos_of_mem (hs a (by simp))
    rw [List.length_cons]
    omega
/-- Where none is ready, those from which one goes are those to which one goes. -/
theorem ring_src {L : List Move} (nd : (L.map Move.dst).Nodup) (hall : ∀ y ∈ L, goesB L y.dst = true) {m : Move} (hm : m ∈ L) : ∃ y ∈ L, y.dst = m.src := by
  by_cases h : m.src ∈ L.map Move.dst
  · obtain ⟨y, hy, e⟩ := List.mem_map.1 h
    exact ⟨y, hy, e⟩
  · exfalso
    have hmem : m.src ∈ L.map Move.src := List.mem_map.2 ⟨m, hm, rfl⟩
    have := sub_len (L.map Move.dst) ((L.map Move.src).erase m.src) nd fun x hx => by
      obtain ⟨y, hy, rfl⟩ := List.mem_map.1 hx
      obtain ⟨z, hz, e⟩ := goesB_iff.1 (hall y hy)
      refine (List.mem_erase_of_ne fun e' => h ?_).2 (List.mem_map.2 ⟨z, hz, e⟩)
      rw [← e']; exact List.mem_map.2 ⟨y, hy, rfl⟩
    rw [List.length_erase_of_mem hmem, List.length_map, List.length_map] at this
    have hpos : 0 < L.length := List.length_pos_of_mem hm
    omega
/-- What a row does. -/
def execM (M : Loc → Int) (m : Move) : Loc → Int := fun p => if p = m.dst then M m.src else M p
def runM (M : Loc → Int) (r : List Move) : Loc → Int := r.foldl execM M
def wantM (M : Loc → Int) (l : List Move) : Loc → Int := l.foldl (fun W m p => if p = m.dst then M m.src else W p) M
theorem fold_other {M : Loc → Int} (l : List Move) : ∀ (W : Loc → Int) (p : Loc), (∀ m ∈ l, m.dst ≠ p) → l.foldl (fun W m p => if p = m.dst then M m.src else W p) W p = W p := by
  induction l with
  | nil => intro W p _; rfl
  | cons m l ih =>
    intro W p h
    rw [List.foldl_cons, ih _ p fun x hx => h x (by simp [hx])]
    have := h m (by simp)
    rw [if_neg (Ne.symm this)]
theorem fold_at {M : Loc → Int} (l : List Move) (nd : (l.map Move.dst).Nodup) : ∀ (W : Loc → Int) (m : Move), m ∈ l → l.foldl (fun W m p => if p = m.dst then M m.src else W p) W m.dst = M m.src := by
  induction l with
  | nil => intro W m hm; cases hm
  | cons x l ih =>
    intro W m hm
    rw [List.map_cons, List.nodup_cons] at nd
    rw [List.foldl_cons]
    rcases List.mem_cons.1 hm with rfl | hm
    · rw [fold_other l _ _ fun y hy e => nd.1 (List.mem_map.2 ⟨y, hy, e⟩), if_pos rfl]
    · exact ih nd.2 _ m hm
structure InvM (s : Loc) (W M : Loc → Int) (L : List Move) : Prop where
  st : StatM s L
  val : ∀ m ∈ L, M m.src = W m.dst
  oth : ∀ p, p ≠ s → (∀ m ∈ L, m.dst ≠ p) → M p = W p
theorem InvM.next {s : Loc} {W M : Loc → Int} {L L' : List Move} {m : Move} (I : InvM s W M L) (h : nxtM s L = some (m, L')) : InvM s W (execM M m) L' := by
  refine ⟨(I.st.next h).1, fun y hy => ?_, fun p hp ho => ?_⟩
  · rcases nxtM_cases h with ⟨k, hk, hg, rfl⟩ | ⟨x, hx, hall, rfl, rfl⟩
    · have hy' := List.mem_of_mem_eraseIdx hy
      unfold execM
      rw [if_neg (goesB_false.1 hg y hy')]
      exact I.val y hy'
    · obtain ⟨z, hz, rfl⟩ := List.mem_map.1 hy
      rw [redir_dst]
      unfold execM
      simp only
      rcases redir_src x.dst s z with e | ⟨e, hne⟩
      · rw [if_pos e]
        have hzx : z.src = x.dst := by
          by_cases hq : z.src = x.dst
          · exact hq
          · unfold redir at e
            rw [if_neg hq] at e
            obtain ⟨q, hq', eq⟩ := ring_src I.st.nd hall hz
            exact absurd (eq.trans e) (I.st.fr q hq')
        rw [← hzx]
        exact I.val z hz
      · rw [e, if_neg ?_]
        · exact I.val z hz
        · intro e'
          obtain ⟨q, hq', eq⟩ := ring_src I.st.nd hall hz
          exact I.st.fr q hq' (eq.trans e')
  · rcases nxtM_cases h with ⟨k, hk, hg, rfl⟩ | ⟨x, hx, hall, rfl, rfl⟩
    · unfold execM
      split
      · rename_i e
        rw [e]
        exact I.val m (List.mem_of_getElem? hk)
      · rename_i hne
        refine I.oth p hp fun y hy e => ?_
        have hl := (List.getElem?_eq_some_iff.1 hk).1
        obtain ⟨j, hj⟩ := List.mem_iff_getElem?.1 hy
        by_cases hjk : j = k
        · subst hjk
          rw [hk] at hj
          injection hj with hj
          exact hne (by rw [hj]; exact e.symm)
        · exact ho y (List.mem_eraseIdx_iff_getElem?.2 ⟨j, hjk, hj⟩) e
    · unfold execM
      rw [if_neg hp]
      exact I.oth p hp fun y hy e => ho (redir x.dst s y) (List.mem_map.2 ⟨y, hy, rfl⟩) (by rw [redir_dst]; exact e)
theorem atOnce {l : List Move} {s : Loc} (h : Sound l s) (hs : s.slot = true) (M : Loc → Int) : ∀ p, p ≠ s → runM M (rowOf s (busyM l)) p = wantM M l p := by
  have S := StatM.of h hs
  have I : InvM s (wantM M l) M (busyM l) := by
    refine ⟨S, fun m hm => (fold_at l h.nd M m (mem_busy.1 hm).1).symm, fun p hp ho => ?_⟩
    by_cases hq : ∃ m ∈ l, m.dst = p
    · obtain ⟨m, hm, rfl⟩ := hq
      have he : m.src = m.dst := by
        by_cases hne : m.src = m.dst
        · exact hne
        · exact absurd rfl (ho m (mem_busy.2 ⟨hm, hne⟩))
      unfold wantM
      rw [fold_at l h.nd M m hm, he]
    · exact (fold_other l M p fun m hm e => hq ⟨m, hm, e⟩).symm
  exact rowOf_ind (P := fun L r => ∀ M', InvM s (wantM M l) M' L → ∀ p, p ≠ s → runM M' r p = wantM M l p) (fun M' I p hp => I.oth p hp fun m hm => by cases hm)
    (fun L m L' hs' h' ih M' I p hp => ih _ (I.next h') p hp) (busyM l) S.fr M I
/-- Another slot to spare. -/
def subL (s t p : Loc) : Loc := if p = s then t else p
def subM (s t : Loc) (m : Move) : Move := ⟨subL s t m.src, subL s t m.dst⟩
def subS (s t : Loc) (m : Move) : Move := ⟨subL s t m.src, m.dst⟩
theorem subL_eq {s t p d : Loc} (h1 : d ≠ s) (h2 : d ≠ t) : (subL s t p = d) ↔ p = d := by
  unfold subL
  split
  · rename_i e
    subst e
    exact ⟨fun h => absurd h.symm h2, fun h => absurd h.symm h1⟩
  · exact Iff.rfl
theorem goesB_sub {s t : Loc} {L : List Move} {d : Loc} (h1 : d ≠ s) (h2 : d ≠ t) : goesB (L.map (subS s t)) d = goesB L d := by
  rw [Bool.eq_iff_iff, goesB_iff, goesB_iff]
  constructor
  · rintro ⟨x, hx, e⟩
    obtain ⟨y, hy, rfl⟩ := List.mem_map.1 hx
    exact ⟨y, hy, (subL_eq h1 h2).1 e⟩
  · rintro ⟨x, hx, e⟩
    exact ⟨subS s t x, List.mem_map.2 ⟨x, hx, rfl⟩, (subL_eq h1 h2).2 e⟩
theorem map_eraseIdx' {α β : Type} (f : α → β) : ∀ (l : List α) (k : Nat), (l.map f).eraseIdx k = (l.eraseIdx k).map f := by
  intro l
  induction l with
  | nil => intro k; rfl
  | cons a l ih =>
    intro k
    cases k with
    | zero => rfl
    | succ k => rw [List.map_cons, List.eraseIdx_cons_succ, List.eraseIdx_cons_succ, List.map_cons, ih]
theorem findIdx?_map' {α β : Type} (f : α → β) (p : β → Bool) (q : α → Bool) : ∀ (l : List α), (∀ x ∈ l, p (f x) = q x) → (l.map f).findIdx? p = l.findIdx? q := by
  intro l
  induction l with
  | nil => intro _; rfl
  | cons a l ih =>
    intro h
    rw [List.map_cons, List.findIdx?_cons, List.findIdx?_cons, h a (by simp), ih fun x hx => h x (by simp [hx])]
theorem readyM_sub {s t : Loc} {L : List Move} (h1 : ∀ m ∈ L, m.dst ≠ s) (h2 : ∀ m ∈ L, m.dst ≠ t) : readyM (L.map (subS s t)) = readyM L := by
  unfold readyM
  refine findIdx?_map' _ _ _ L fun x hx => ?_
  show (!goesB (L.map (subS s t)) x.dst) = _
  rw [goesB_sub (h1 x hx) (h2 x hx)]
theorem nxtM_sub {s t : Loc} {L L' : List Move} {m : Move} (h1 : ∀ m ∈ L, m.dst ≠ s) (h2 : ∀ m ∈ L, m.dst ≠ t) (h : nxtM s L = some (m, L')) : nxtM t (L.map (subS s t)) = some (subM s t m, L'.map (subS s t)) := by
  unfold nxtM at h ⊢
  rw [readyM_sub h1 h2]
  split at h
  · rename_i k hk
    obtain ⟨x, hx, hg⟩ := readyM_some hk
    rw [hx] at h
    injection h with h
    injection h with e1 e2
    subst e1 e2
    show ((L.map (subS s t))[k]?).map (fun m => (m, (L.map (subS s t)).eraseIdx k)) = _
    rw [List.getElem?_map, hx, map_eraseIdx']
    have : subM s t x = subS s t x := by
      unfold subM subS subL
      rw [if_neg (h1 x (List.mem_of_getElem? hx))]
    rw [this]
    rfl
  · cases L with
    | nil => cases h
    | cons x l =>
      injection h with h
      injection h with e1 e2
      subst e1 e2
      show some ((⟨(subS s t x).dst, t⟩ : Move), ((x :: l).map (subS s t)).map (redir (subS s t x).dst t)) = some (subM s t ⟨x.dst, s⟩, ((x :: l).map (redir x.dst s)).map (subS s t))
      rw [Option.some.injEq, Prod.mk.injEq]
      have hx1 := h1 x (by simp); have hx2 := h2 x (by simp)
      have key : ∀ y : Move, redir x.dst t (subS s t y) = subS s t (redir x.dst s y) := fun y => by
        unfold redir
        by_cases hq : y.src = x.dst
        · have : (subS s t y).src = x.dst := (subL_eq hx1 hx2).2 hq
          rw [if_pos this, if_pos hq]
          unfold subS subL
          simp
        · have : (subS s t y).src ≠ x.dst := fun e => hq ((subL_eq hx1 hx2).1 e)
          rw [if_neg this, if_neg hq]
      refine ⟨?_, ?_⟩
      · unfold subM subL
        rw [if_neg hx1]
        simp [subS]
      · rw [show (subS s t x).dst = x.dst from rfl, List.map_map, List.map_map]
        exact List.map_congr_left fun y _ => key y
theorem row_sub {s t : Loc} (L : List Move) (h1 : ∀ m ∈ L, m.dst ≠ s) (h2 : ∀ m ∈ L, m.dst ≠ t) : rowOf t (L.map (subS s t)) = (rowOf s L).map (subM s t) := by
  refine rowOf_ind (P := fun L r => (∀ m ∈ L, m.dst ≠ t) → rowOf t (L.map (subS s t)) = r.map (subM s t)) (fun _ => rfl) (fun L m L' hs h ih h2 => ?_) L h1 h2
  rw [rowOf_cons (fun x hx => by
    obtain ⟨y, hy, rfl⟩ := List.mem_map.1 hx
    exact h2 y hy) (nxtM_sub hs h2 h), List.map_cons, ih fun y hy => by
    obtain ⟨x, hx, e⟩ := nxtM_dst h y hy
    rw [e]; exact h2 x hx]
theorem map_id_of {α : Type} (f : α → α) : ∀ (l : List α), (∀ x ∈ l, f x = x) → l.map f = l := by
  intro l
  induction l with
  | nil => intro _; rfl
  | cons a l ih => intro h; rw [List.map_cons, h a (by simp), ih fun x hx => h x (by simp [hx])]
theorem row_other {s t : Loc} {L : List Move} (h1 : ∀ m ∈ L, m.src ≠ s ∧ m.dst ≠ s) (h2 : ∀ m ∈ L, m.dst ≠ t) : rowOf t L = (rowOf s L).map (subM s t) := by
  rw [← row_sub L (fun m hm => (h1 m hm).2) h2]
  rw [map_id_of (subS s t) L fun m hm => by
    unfold subS subL
    rw [if_neg (h1 m hm).1]]
/-- As many rings, whatever is spare. -/
theorem rings_other {s t : Loc} {L : List Move} (h1 : ∀ m ∈ L, m.src ≠ s ∧ m.dst ≠ s) (h2 : ∀ m ∈ L, m.dst ≠ t) : ringsN t (rowOf t L) = ringsN s (rowOf s L) := by
  have e1 := rowOf_len (s := s) L fun m hm => (h1 m hm).2
  have e2 := rowOf_len (s := t) L h2
  have e3 := congrArg List.length (row_other h1 h2)
  rw [List.length_map] at e3
  omega
/-- The first slot that none names. -/
def firstT (l : List Move) : Nat := ((List.range 400).find? fun n : Nat => !namesM l (spL n)).getD 400
def ringsM (l : List Move) : Nat := if rightM' l (spL (firstT l)) = true then ringsN (spL (firstT l)) (rowOf (spL (firstT l)) (busyM l)) else 0
theorem namesM_false {l : List Move} {p : Loc} : namesM l p = false ↔ ∀ m ∈ l, m.src ≠ p ∧ m.dst ≠ p := by
  unfold namesM
  simp only [List.any_eq_false, Bool.or_eq_true, decide_eq_true_eq, not_or]
theorem ringsM_right {l : List Move} {t : Nat} (h : Sound l (spL t)) : ringsM l = ringsN (spL t) (rowOf (spL t) (busyM l)) := by
  have ht : t < 400 := by have := h.spare; unfold okL spL at this; simp at this; omega
  have hfree : namesM l (spL t) = false := namesM_false.2 h.free
  obtain ⟨q, hq⟩ : ∃ q, (List.range 400).find? (fun n : Nat => !namesM l (spL n)) = some q := by
    cases hf : (List.range 400).find? (fun n : Nat => !namesM l (spL n)) with
    | some q => exact ⟨q, rfl⟩
    | none =>
      have := List.find?_eq_none.1 hf t (List.mem_range.2 ht)
      rw [hfree] at this
      simp at this
  have hq1 := List.find?_some hq
  have hq2 := List.mem_range.1 (List.mem_of_find?_eq_some hq)
  have e : firstT l = q := by unfold firstT; rw [hq]; rfl
  have hqf : namesM l (spL q) = false := by simpa using hq1
  have hS : Sound l (spL q) := ⟨by unfold okL spL; simp; omega, h.ok, h.nd, h.slot, namesM_false.1 hqf⟩
  unfold ringsM
  rw [e, if_pos (rightM_iff.2 hS)]
  exact rings_other (fun m hm => h.free m (mem_busy.1 hm).1) fun m hm => (hS.free m (mem_busy.1 hm).1).2
end Go.Proofs.Ytoghikagooegbaa
