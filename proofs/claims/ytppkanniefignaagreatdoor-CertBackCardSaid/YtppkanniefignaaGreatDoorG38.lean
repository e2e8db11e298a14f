/- law28: plain: what is read fits, and its text is short. law28: plain: what is read fits: blocks, tiles. law28: plain: what is read fits: a fact. law28: plain: what is read fits: rows of facts. law28: plain: what is read fits: rows of facts, the loop. law28: plain: what is read fits: rows, tiles, edges. law28: plain: what is read fits: certificates. law28: plain: what is read can be written: its text is short. law28: plain: the text of what is read is short. law28: plain: a text has no more words than runes. law28: plain: what is read can be written, and is read again. -/
import Derived.Test.YtppkanniefignaaGreatDoorG37
set_option linter.unusedSimpArgs false
set_option linter.unusedVariables false
namespace Go.Proofs.YtppkanniefignaaGreatDoor
open Go.RowKit
theorem fail_e28 {x : Int} (hx : x ≠ 0) (s : Cur) : (failC x s).e ≠ 0 := by
  unfold failC
  split
  · rename_i h; rcases h with h | h; exact h; exact absurd h hx
  · split <;> exact hx
theorem num_ok28 {lo hi : Int} {s : Cur} (h : (numC lo hi s).2.e = 0) : s.e = 0 ∧ lo ≤ (numC lo hi s).1 ∧ (numC lo hi s).1 ≤ hi ∧ leftC (numC lo hi s).2 + 1 = leftC s := by
  unfold numC headC at h ⊢
  by_cases he : s.e = 0
  · rw [if_pos he] at h ⊢
    cases hw : s.ws with
    | nil => rw [hw] at h; exact absurd h (fail_e28 (by decide) s)
    | cons w l =>
      rw [hw] at h
      simp only [List.head?_cons] at h ⊢
      by_cases hk : w.kind = 2
      · rw [if_pos hk] at h ⊢
        by_cases hr : w.n < lo ∨ hi < w.n
        · rw [if_pos hr] at h; exact absurd h (fail_e28 (by decide) s)
        · rw [if_neg hr]
          refine ⟨he, by omega, by omega, ?_⟩
          unfold leftC popC
          simp only
          rw [if_pos he, if_pos he, hw]
          rfl
      · rw [if_neg hk] at h; exact absurd h (fail_e28 (by decide) s)
  · rw [if_neg he] at h; exact absurd h (fail_e28 (by decide) s)
theorem name_ok28 {s : Cur} (h : (nameC s).2.e = 0) : s.e = 0 ∧ leftC (nameC s).2 + 1 = leftC s := by
  unfold nameC headC at h ⊢
  by_cases he : s.e = 0
  · rw [if_pos he] at h ⊢
    cases hw : s.ws with
    | nil => rw [hw] at h; exact absurd h (fail_e28 (by decide) s)
    | cons w l =>
      rw [hw] at h
      simp only [List.head?_cons] at h ⊢
      by_cases hk : w.kind = 1
      · rw [if_pos hk]
        refine ⟨he, ?_⟩
        unfold leftC popC
        simp only
        rw [if_pos he, if_pos he, hw]
        rfl
      · rw [if_neg hk] at h; exact absurd h (fail_e28 (by decide) s)
  · rw [if_neg he] at h; exact absurd h (fail_e28 (by decide) s)
theorem unless_in28 {b : Bool} {x : Int} (hx : x ≠ 0) {s : Cur} (h : (unlessC b x s).e = 0) : b = true ∧ s.e = 0 ∧ unlessC b x s = s := by
  unfold unlessC at h ⊢
  by_cases hb : b = true
  · rw [if_pos hb] at h ⊢; exact ⟨hb, h, rfl⟩
  · rw [if_neg hb] at h; exact absurd h (fail_e28 hx s)
theorem pop_left28 {v : Has} {s : Cur} (h : isC v s = true) : s.e = 0 ∧ leftC (popC s) + 1 = leftC s := by
  have h1 := left_is h
  have h2 := left_pop s
  refine ⟨?_, by omega⟩
  unfold isC headC at h
  by_cases he : s.e = 0
  · exact he
  · rw [if_neg he] at h; cases h
theorem mark_ok28 {t : ByteArray} {s : Cur} (h : (markC [t] s).e = 0) : s.e = 0 ∧ leftC (markC [t] s) + 1 = leftC s := by
  unfold markC markC at h ⊢
  by_cases hi : isC (.mk t) s = true
  · rw [if_pos hi] at h ⊢
    exact pop_left28 hi
  · rw [if_neg hi] at h; exact absurd h (fail_e28 (by decide) s)
theorem end_ok28 {s : Cur} (h : (endC s).e = 0) : s.e = 0 ∧ leftC (endC s) ≤ leftC s := by
  refine ⟨?_, left_end s⟩
  unfold endC at h
  split at h
  · split at h
    · exact h
    · exact absurd h (fail_e28 (by decide) s)
  · exact h
theorem kind_ok28 : ∀ (l : List ByteArray) (k : Nat) (s : Cur), (kindC l k s).2.e = s.e ∧ ((kindC l k s).1 = 0 ∨ (k ≤ (kindC l k s).1 ∧ (kindC l k s).1 < k + l.length ∧ leftC (kindC l k s).2 + 1 = leftC s))
  | [], _, _ => ⟨rfl, .inl rfl⟩
  | t :: l, k, s => by
    unfold kindC
    by_cases hi : isC (.nm t) s = true
    · rw [if_pos hi]
      exact ⟨rfl, .inr ⟨Nat.le_refl _, by simp, (pop_left28 hi).2⟩⟩
    · rw [if_neg hi]
      obtain ⟨h1, h2⟩ := kind_ok28 l (k + 1) s
      refine ⟨h1, ?_⟩
      rcases h2 with h2 | ⟨h2, h3, h4⟩
      · exact .inl h2
      · exact .inr ⟨by omega, by simp only [List.length_cons]; omega, h4⟩
end Go.Proofs.YtppkanniefignaaGreatDoor
set_option linter.unusedSimpArgs false
set_option linter.unusedVariables false
namespace Go.Proofs.YtppkanniefignaaGreatDoor
open Go.RowKit
theorem blocks_in28 : ∀ (f : Nat) (x : List Int × Cur), (loopC blockG f x).2.e = 0 → x.2.e = 0 ∧ ∃ bl : List Int, (loopC blockG f x).1 = x.1 ++ bl ∧ (∀ b ∈ bl, 0 ≤ b ∧ b < 200) ∧ (x.1.length ≤ 200 → (x.1 ++ bl).length ≤ 200) ∧ leftC (loopC blockG f x).2 + bl.length = leftC x.2
  | 0, x, h => ⟨h, [], by simp [loopC], fun _ h => (by cases h), fun h => by simpa using h, by simp [loopC]⟩
  | f + 1, x, h => by
    cases hg : blockG x with
    | none =>
      rw [loop_none hg] at h ⊢
      exact ⟨h, [], by simp, fun _ h => (by cases h), fun h => by simpa using h, by simp⟩
    | some y =>
      rw [loop_some hg] at h ⊢
      obtain ⟨h1, bl, h2, h3, h4, h5⟩ := blocks_in28 f y h
      unfold blockG at hg
      split at hg
      · cases hg
      · injection hg with hg
        subst hg
        simp only at h1 h2 h3 h4 h5
        obtain ⟨a1, a2, a3, a4⟩ := num_ok28 h1
        obtain ⟨b1, b2, b3⟩ := unless_in28 (by decide) a1
        rw [b3] at h2 h4 h5 a2 a3 a4 ⊢
        have hl : x.1.length < 200 := by simpa using b1
        refine ⟨b2, (numC 0 199 x.2).1 :: bl, by rw [h2]; simp, fun b hb => ?_, fun _ => ?_, ?_⟩
        · rcases List.mem_cons.1 hb with rfl | hb
          · omega
          · exact h3 b hb
        · have := h4 (by simp only [List.length_append, List.length_cons, List.length_nil]; omega)
          simpa using this
        · simp only [List.length_cons]; omega
theorem tile_in28 {s : Cur} (h : (tileC s).2.e = 0) : s.e = 0 ∧ TileIn (tileC s).1 ∧ leftC (tileC s).2 + (3 + (tileC s).1.blocks.length) ≤ leftC s := by
  unfold tileC at h ⊢
  simp only at h ⊢
  obtain ⟨e1, e2⟩ := end_ok28 h
  unfold blocksC runC at e1 e2 ⊢
  obtain ⟨f1, bl, f2, f3, f4, f5⟩ := blocks_in28 _ _ e1
  simp only at e1 e2 f1 f2 f4 f5 ⊢
  obtain ⟨m1, m2⟩ := mark_ok28 f1
  obtain ⟨n1, n2, n3, n4⟩ := num_ok28 m1
  obtain ⟨u1, u2, u3⟩ := unless_in28 (by decide) n1
  obtain ⟨k1, k2⟩ := kind_ok28 kindsB 1 s
  have hk0 : (kindC kindsB 1 s).1 ≠ 0 := by simpa using u1
  rcases k2 with k2 | ⟨k2, k3, k4⟩
  · exact absurd k2 hk0
  rw [u3] at n2 n3 n4 m2 f5 e2 f2 ⊢
  have k5 : (kindC kindsB 1 s).1 < 1 + 4 := k3
  rw [List.nil_append] at f2 f4
  have f4' := f4 (by simp)
  refine ⟨k1 ▸ u2, ⟨by simp only; omega, by simp only; omega, by simp only; exact n2, by simp only; omega, by simp only; rw [f2]; exact f4', fun b hb => f3 b (by simp only at hb; rw [f2] at hb; exact hb)⟩, ?_⟩
  rw [f2]
  omega
end Go.Proofs.YtppkanniefignaaGreatDoor
set_option linter.unusedSimpArgs false
set_option linter.unusedVariables false
namespace Go.Proofs.YtppkanniefignaaGreatDoor
open Go.RowKit
theorem name_var28 {s : ByteArray} (h : varW s ≠ 0) : NmOk (.var (varW s)) := by
  have : nameW s = some (.var (varW s)) := if_pos h
  exact (nameW_inv this).2
theorem name_loc28 {s : ByteArray} {l : Loc} (h : placeW s = some l) : NmOk (.loc l) := by
  have h1 := nameW_loc s
  rw [h] at h1
  cases hn : nameW s with
  | none => rw [hn] at h1; cases h1
  | some x =>
    rw [hn] at h1
    cases x with
    | var n => cases h1
    | loc l' =>
      simp only [Option.some.injEq] at h1
      subst h1
      exact (nameW_inv hn).2
theorem factOk_nm28 {f : Fact} (h1 : NmOk (.var f.var)) (h2 : NmOk (.loc f.loc)) : factOk f = true := by
  obtain ⟨a, b⟩ := h2
  unfold factOk inR
  simp only [Bool.and_eq_true, Bool.or_eq_true, decide_eq_true_eq]
  exact ⟨by rcases h1 with h | h <;> omega, a, b⟩
theorem fact_in28 {l : List Fact} {s : Cur} (h : (factC l s).2.e = 0) : s.e = 0 ∧ factOk (factC l s).1 = true ∧ l.length < 600 ∧ lastOk l (factC l s).1 = true ∧ leftC (factC l s).2 + 3 = leftC s := by
  unfold factC at h ⊢
  simp only at h ⊢
  obtain ⟨a1, a2⟩ := name_ok28 h
  obtain ⟨b1, b2, b3⟩ := unless_in28 (by decide) a1
  obtain ⟨c1, c2⟩ := mark_ok28 b2
  obtain ⟨d1, d2⟩ := name_ok28 c1
  obtain ⟨e1, e2, e3⟩ := unless_in28 (by decide) d1
  obtain ⟨f1, f2, f3⟩ := unless_in28 (by decide) e2
  rw [b3] at a2 ⊢
  rw [e3] at b1 c2 d2 a2 ⊢
  rw [f3] at b1 c2 d2 a2 e1 ⊢
  rw [Bool.and_eq_true] at b1
  refine ⟨f2, ?_, by simpa using f1, b1.2, by omega⟩
  obtain ⟨pl, hpl⟩ := Option.isSome_iff_exists.1 b1.1
  rw [hpl]
  exact factOk_nm28 (name_var28 (by simpa using e1)) (name_loc28 hpl)
end Go.Proofs.YtppkanniefignaaGreatDoor
set_option linter.unusedSimpArgs false
set_option linter.unusedVariables false
namespace Go.Proofs.YtppkanniefignaaGreatDoor
open Go.RowKit
theorem rowL_snoc28 (f : Fact) : ∀ (l : List Fact) (p : Option Fact), rowL p l = true → factOk f = true → (match l.getLast? with | some g => aheadF g f | none => (match p with | some g => aheadF g f | none => true)) = true → rowL p (l ++ [f]) = true
  | [], none, _, h2, _ => by show (factOk f && true) = true; rw [h2]; rfl
  | [], some g, _, h2, h3 => by
    have h3' : aheadF g f = true := h3
    show (factOk f && aheadF g f && true) = true
    rw [h2, h3']; rfl
  | x :: l, p, h1, h2, h3 => by
    have h4 : (match l.getLast? with | some g => aheadF g f | none => aheadF x f) = true := by
      cases l with
      | nil => exact h3
      | cons y l => rw [List.getLast?_cons_cons] at h3; cases hg : (y :: l).getLast? with
        | none => simp at hg
        | some g => rw [hg] at h3; exact h3
    cases p with
    | none =>
      rw [show rowL none (x :: l) = (factOk x && rowL (some x) l) from rfl, Bool.and_eq_true] at h1
      show (factOk x && rowL (some x) (l ++ [f])) = true
      rw [h1.1, rowL_snoc28 f l (some x) h1.2 h2 h4]; rfl
    | some g =>
      rw [show rowL (some g) (x :: l) = (factOk x && aheadF g x && rowL (some x) l) from rfl, Bool.and_eq_true] at h1
      show (factOk x && aheadF g x && rowL (some x) (l ++ [f])) = true
      rw [h1.1, rowL_snoc28 f l (some x) h1.2 h2 h4]; rfl
end Go.Proofs.YtppkanniefignaaGreatDoor
set_option linter.unusedSimpArgs false
set_option linter.unusedVariables false
namespace Go.Proofs.YtppkanniefignaaGreatDoor
open Go.RowKit
theorem facts_e28 : ∀ (n : Nat) (x : (List Fact × Bool) × Cur), (loopC factG n x).2.e = 0 → x.2.e = 0
  | 0, _, h => h
  | n + 1, x, h => by
    cases hg : factG x with
    | none => rw [loop_none hg] at h; exact h
    | some y =>
      rw [loop_some hg] at h
      have h2 := facts_e28 n y h
      unfold factG at hg
      split at hg
      · injection hg with hg
        have hye : y.2.e = (factC x.1.1 x.2).2.e := by rw [← hg]; unfold overC; simp only; split <;> rfl
        exact (fact_in28 (hye ▸ h2)).1
      · cases hg
theorem facts_in28 : ∀ (n : Nat) (x : (List Fact × Bool) × Cur), (loopC factG n x).2.e = 0 → rowL none x.1.1 = true → x.1.1.length ≤ 600 → x.2.e = 0 ∧ rowL none (loopC factG n x).1.1 = true ∧ (loopC factG n x).1.1.length ≤ 600 ∧ x.1.1.length ≤ (loopC factG n x).1.1.length ∧ leftC (loopC factG n x).2 + 3 * ((loopC factG n x).1.1.length - x.1.1.length) ≤ leftC x.2
  | 0, x, h, hr, hl => ⟨h, hr, hl, Nat.le_refl _, by simp [loopC]⟩
  | n + 1, x, h, hr, hl => by
    cases hg : factG x with
    | none =>
      rw [loop_none hg] at h ⊢
      exact ⟨h, hr, hl, Nat.le_refl _, by simp⟩
    | some y =>
      rw [loop_some hg] at h ⊢
      unfold factG at hg
      split at hg
      · injection hg with hg
        have hy2 : y.2 = overC (isC (.mk tComma) (factC x.1.1 x.2).2) (factC x.1.1 x.2).2 := by rw [← hg]
        have hy1 : y.1.1 = x.1.1 ++ [(factC x.1.1 x.2).1] := by rw [← hg]
        have hye : y.2.e = (factC x.1.1 x.2).2.e := by rw [hy2]; unfold overC; split <;> rfl
        have hyl : leftC y.2 ≤ leftC (factC x.1.1 x.2).2 := by
          rw [hy2]; unfold overC
          split
          · rw [left_pop]; omega
          · exact Nat.le_refl _
        by_cases he : (factC x.1.1 x.2).2.e = 0
        · obtain ⟨a1, a2, a3, a4, a5⟩ := fact_in28 he
          have hr2 : rowL none y.1.1 = true := by
            rw [hy1]
            refine rowL_snoc28 _ _ none hr a2 ?_
            unfold lastOk at a4
            cases hq : x.1.1.getLast? with
            | none => rfl
            | some g => rw [hq] at a4; exact a4
          have hl2 : y.1.1.length = x.1.1.length + 1 := by rw [hy1]; simp
          obtain ⟨b1, b2, b3, b4, b5⟩ := facts_in28 n y h hr2 (by omega)
          exact ⟨a1, b2, b3, by omega, by omega⟩
        · exfalso
          exact he (hye ▸ (facts_e28 n y h))
      · cases hg
end Go.Proofs.YtppkanniefignaaGreatDoor
set_option linter.unusedSimpArgs false
set_option linter.unusedVariables false
namespace Go.Proofs.YtppkanniefignaaGreatDoor
open Go.RowKit
theorem row_in28 {s : Cur} (h : (factsC s).2.e = 0) : s.e = 0 ∧ rowOk (factsC s).1 = true ∧ leftC (factsC s).2 + 3 * (factsC s).1.length ≤ leftC s := by
  unfold factsC at h ⊢
  simp only at h ⊢
  obtain ⟨e1, e2⟩ := end_ok28 h
  unfold factsL runC at e1 e2 ⊢
  obtain ⟨a1, a2, a3, a4, a5⟩ := facts_in28 _ _ e1 rfl (Nat.zero_le _)
  simp only [List.length_nil, Nat.sub_zero] at a5
  refine ⟨a1, ?_, by omega⟩
  unfold rowOk
  rw [a2, Bool.true_and]
  simpa using a3
theorem tileOk_of28 {t : Tile} (h : TileIn t) : tileOk t = true := by
  unfold tileOk inR
  simp only [Bool.and_eq_true, decide_eq_true_eq, List.all_eq_true]
  have := h.k1; have := h.k4; have := h.p1; have := h.p2
  exact ⟨⟨⟨⟨by omega, by omega⟩, by omega, by omega⟩, h.n⟩, fun b hb => h.b b hb⟩
/-- Words of tiles, of rows. -/
def tileN : List Tile → Nat
  | [] => 0
  | t :: l => 4 + t.blocks.length + tileN l
def rowN : List (List Fact) → Nat
  | [] => 0
  | r :: l => 1 + 3 * r.length + rowN l
theorem tileN_snoc : ∀ (l : List Tile) (t : Tile), tileN (l ++ [t]) = tileN l + (4 + t.blocks.length)
  | [], t => by simp [tileN]
  | x :: l, t => by show _ + tileN (l ++ [t]) = _; rw [tileN_snoc l t]; simp only [tileN]; omega
theorem rowN_snoc : ∀ (l : List (List Fact)) (r : List Fact), rowN (l ++ [r]) = rowN l + (1 + 3 * r.length)
  | [], r => by simp [rowN]
  | x :: l, r => by show _ + rowN (l ++ [r]) = _; rw [rowN_snoc l r]; simp only [rowN]; omega
theorem tiles_e28 : ∀ (n : Nat) (x : List Tile × Cur), (loopC tilesG n x).2.e = 0 → x.2.e = 0
  | 0, _, h => h
  | n + 1, x, h => by
    cases hg : tilesG x with
    | none => rw [loop_none hg] at h; exact h
    | some y =>
      rw [loop_some hg] at h
      have h2 := tiles_e28 n y h
      unfold tilesG at hg
      split at hg
      · rename_i hi
        exact (pop_left28 hi).1
      · cases hg
theorem tiles_in28 : ∀ (n : Nat) (x : List Tile × Cur), (loopC tilesG n x).2.e = 0 → (∀ t ∈ x.1, tileOk t = true) → x.1.length ≤ 200 → (∀ t ∈ (loopC tilesG n x).1, tileOk t = true) ∧ (loopC tilesG n x).1.length ≤ 200 ∧ leftC (loopC tilesG n x).2 + tileN (loopC tilesG n x).1 ≤ leftC x.2 + tileN x.1
  | 0, x, h, ht, hl => ⟨ht, hl, Nat.le_refl _⟩
  | n + 1, x, h, ht, hl => by
    cases hg : tilesG x with
    | none => rw [loop_none hg] at h ⊢; exact ⟨ht, hl, Nat.le_refl _⟩
    | some y =>
      rw [loop_some hg] at h ⊢
      have h2 := tiles_e28 n y h
      unfold tilesG at hg
      split at hg
      · rename_i hi
        injection hg with hg
        obtain ⟨s2, hs2⟩ : ∃ s, unlessC (decide (x.1.length < 200)) 3 (popC x.2) = s := ⟨_, rfl⟩
        rw [hs2] at hg
        have hy1 : y.1 = x.1 ++ [(tileC s2).1] := by rw [← hg]
        have hy2 : y.2 = (tileC s2).2 := by rw [← hg]
        rw [hy2] at h2
        obtain ⟨a1, a2, a3⟩ := tile_in28 h2
        rw [← hs2] at a1
        obtain ⟨b1, b2, b3⟩ := unless_in28 (by decide) a1
        rw [hs2] at b3
        have hp := (pop_left28 hi).2
        have hl1 : x.1.length < 200 := by simpa using b1
        have hok : ∀ t ∈ y.1, tileOk t = true := by
          intro t htt
          rw [hy1] at htt
          rcases List.mem_append.1 htt with htt | htt
          · exact ht t htt
          · rw [List.mem_singleton.1 htt]; exact tileOk_of28 a2
        obtain ⟨c1, c2, c3⟩ := tiles_in28 n y h hok (by rw [hy1]; simp; omega)
        refine ⟨c1, c2, ?_⟩
        rw [hy2, hy1, tileN_snoc] at c3
        rw [b3] at a3 c3
        omega
      · cases hg
theorem edges_e28 : ∀ (n : Nat) (x : List (List Fact) × Cur), (loopC edgesG n x).2.e = 0 → x.2.e = 0
  | 0, _, h => h
  | n + 1, x, h => by
    cases hg : edgesG x with
    | none => rw [loop_none hg] at h; exact h
    | some y =>
      rw [loop_some hg] at h
      have h2 := edges_e28 n y h
      unfold edgesG at hg
      split at hg
      · rename_i hi
        exact (pop_left28 hi).1
      · cases hg
theorem edges_in28 : ∀ (n : Nat) (x : List (List Fact) × Cur), (loopC edgesG n x).2.e = 0 → (∀ t ∈ x.1, rowOk t = true) → x.1.length ≤ 400 → (∀ t ∈ (loopC edgesG n x).1, rowOk t = true) ∧ (loopC edgesG n x).1.length ≤ 400 ∧ leftC (loopC edgesG n x).2 + rowN (loopC edgesG n x).1 ≤ leftC x.2 + rowN x.1
  | 0, x, h, ht, hl => ⟨ht, hl, Nat.le_refl _⟩
  | n + 1, x, h, ht, hl => by
    cases hg : edgesG x with
    | none => rw [loop_none hg] at h ⊢; exact ⟨ht, hl, Nat.le_refl _⟩
    | some y =>
      rw [loop_some hg] at h ⊢
      have h2 := edges_e28 n y h
      unfold edgesG at hg
      split at hg
      · rename_i hi
        injection hg with hg
        obtain ⟨s2, hs2⟩ : ∃ s, unlessC (decide (x.1.length < 400)) 3 (popC x.2) = s := ⟨_, rfl⟩
        rw [hs2] at hg
        have hy1 : y.1 = x.1 ++ [(factsC s2).1] := by rw [← hg]
        have hy2 : y.2 = (factsC s2).2 := by rw [← hg]
        rw [hy2] at h2
        obtain ⟨a1, a2, a3⟩ := row_in28 h2
        rw [← hs2] at a1
        obtain ⟨b1, b2, b3⟩ := unless_in28 (by decide) a1
        rw [hs2] at b3
        have hp := (pop_left28 hi).2
        have hl1 : x.1.length < 400 := by simpa using b1
        have hok : ∀ t ∈ y.1, rowOk t = true := by
          intro t htt
          rw [hy1] at htt
          rcases List.mem_append.1 htt with htt | htt
          · exact ht t htt
          · rw [List.mem_singleton.1 htt]; exact a2
        obtain ⟨c1, c2, c3⟩ := edges_in28 n y h hok (by rw [hy1]; simp; omega)
        refine ⟨c1, c2, ?_⟩
        rw [hy2, hy1, rowN_snoc] at c3
        rw [b3] at a3 c3
        omega
      · cases hg
end Go.Proofs.YtppkanniefignaaGreatDoor
set_option linter.unusedSimpArgs false
set_option linter.unusedVariables false
namespace Go.Proofs.YtppkanniefignaaGreatDoor
open Go.RowKit
theorem cert_in28 {s : Cur} (h : (certC s).2.e = 0) : fitsB (certC s).1 = true ∧ leftC (certC s).2 + rowN (certC s).1.facts + tileN (certC s).1.tiles ≤ leftC s := by
  unfold certC at h ⊢
  simp only at h ⊢
  unfold edgesC runC at h ⊢
  have h1 := edges_e28 _ _ h
  obtain ⟨a1, a2, a3⟩ := edges_in28 _ _ h (fun _ h => (by cases h)) (Nat.zero_le _)
  simp only at h1 a1 a2 a3 ⊢
  obtain ⟨t, ht⟩ : ∃ t, tilesC ([], s) = t := ⟨_, rfl⟩
  rw [ht] at h1 a1 a2 a3 ⊢
  unfold tilesC runC at ht
  rw [← ht] at h1
  obtain ⟨b1, b2, b3⟩ := tiles_in28 _ _ h1 (fun _ h => (by cases h)) (Nat.zero_le _)
  rw [ht] at b1 b2 b3
  simp only [rowN, tileN] at a3 b3
  refine ⟨?_, by omega⟩
  unfold fitsB
  simp only [Bool.and_eq_true, decide_eq_true_eq, List.all_eq_true]
  exact ⟨⟨⟨b2, a2⟩, b1⟩, a1⟩
end Go.Proofs.YtppkanniefignaaGreatDoor
set_option linter.unusedSimpArgs false
set_option linter.unusedVariables false
namespace Go.Proofs.YtppkanniefignaaGreatDoor
open Go.RowKit
/-- A bound of lines' bytes. -/
def linesZ : List (List Pt) → Nat
  | [] => 0
  | p :: l => 23 * p.length + 1 + linesZ l
theorem linesZ_app : ∀ (a b : List (List Pt)), linesZ (a ++ b) = linesZ a + linesZ b
  | [], b => by simp [linesZ]
  | p :: a, b => by show _ + linesZ (a ++ b) = _; rw [linesZ_app a b]; simp only [linesZ]; omega
theorem linesz28 : ∀ (L : List (List Pt)) (acc : ByteArray), (∀ ps ∈ L, ∀ x ∈ ps.map ptB, x.size ≤ 22) → (linesB acc L).size ≤ acc.size + linesZ L
  | [], acc, _ => by simp [linesB, linesZ]
  | ps :: L, acc, h => by
    have h1 := joinW_sz 22 (ps.map ptB) (h ps (by simp))
    rw [List.length_map] at h1
    have h2 := linesz28 L (acc ++ lineB ps) fun q hq => h q (List.mem_cons_of_mem _ hq)
    have h3 : (⟨#[10]⟩ : ByteArray).size = 1 := rfl
    have h4 : (lineB ps).size ≤ 23 * ps.length + 1 := by unfold lineB; rw [ByteArray.size_append, h3]; omega
    rw [ByteArray.size_append] at h2
    show (linesB (acc ++ lineB ps) L).size ≤ _
    simp only [linesZ]
    omega
theorem factsN28 : ∀ (l : List Fact) (b : Bool), (factsP b l).length ≤ 4 * l.length
  | [], b => by cases b <;> exact Nat.zero_le _
  | f :: l, b => by
    have ih := factsN28 l false
    cases b with
    | true => rw [show factsP true (f :: l) = factP f ++ factsP false l from rfl, List.length_append, show (factP f).length = 3 from rfl, List.length_cons]; omega
    | false => rw [show factsP false (f :: l) = .str tComma :: (factP f ++ factsP false l) from rfl, List.length_cons, List.length_append, show (factP f).length = 3 from rfl, List.length_cons]; omega
theorem tilesZ28 : ∀ tl : List Tile, linesZ (tl.map tileP) ≤ 31 * tileN tl
  | [] => Nat.zero_le _
  | t :: tl => by
    have ih := tilesZ28 tl
    have e : (tileP t).length = 4 + t.blocks.length := by unfold tileP; simp; omega
    rw [List.map_cons]
    simp only [linesZ, tileN]
    omega
theorem edgesZ28 : ∀ fl : List (List Fact), linesZ (fl.map edgeP) ≤ 31 * rowN fl
  | [] => Nat.zero_le _
  | l :: fl => by
    have ih := edgesZ28 fl
    have e : (edgeP l).length ≤ 1 + 4 * l.length := by unfold edgeP; have := factsN28 l true; rw [List.length_cons]; omega
    rw [List.map_cons]
    simp only [linesZ, rowN]
    omega
end Go.Proofs.YtppkanniefignaaGreatDoor
set_option linter.unusedSimpArgs false
set_option linter.unusedVariables false
namespace Go.Proofs.YtppkanniefignaaGreatDoor
open Go.RowKit
/-- Words of lines, and their ends. -/
def linesN : List (List Pt) → Nat
  | [] => 0
  | p :: l => p.length + 1 + linesN l
theorem linesN_app : ∀ (a b : List (List Pt)), linesN (a ++ b) = linesN a + linesN b
  | [], b => by simp [linesN]
  | p :: a, b => by show _ + linesN (a ++ b) = _; rw [linesN_app a b]; simp only [linesN]; omega
theorem lines_sz28 : ∀ (L : List (List Pt)) (acc : ByteArray), (∀ ps ∈ L, ∀ x ∈ ps.map ptB, x.size ≤ 22) → (linesB acc L).size ≤ acc.size + 23 * linesN L
  | [], acc, _ => by simp [linesB, linesN]
  | ps :: L, acc, h => by
    have h1 := joinW_sz 22 (ps.map ptB) (h ps (by simp))
    rw [List.length_map] at h1
    have h2 := lines_sz28 L (acc ++ lineB ps) fun q hq => h q (List.mem_cons_of_mem _ hq)
    have h3 : (⟨#[10]⟩ : ByteArray).size = 1 := rfl
    have h4 : (lineB ps).size ≤ 23 * ps.length + 1 := by unfold lineB; rw [ByteArray.size_append, h3]; omega
    rw [ByteArray.size_append] at h2
    show (linesB (acc ++ lineB ps) L).size ≤ _
    simp only [linesN]
    omega
theorem words_sz28 {c : Cert} (h : fitsB c = true) : ∀ ps ∈ linesC c, ∀ x ∈ ps.map ptB, x.size ≤ 22 := by
  have hf := fits_in h
  intro ps hp
  rcases List.mem_append.1 hp with hp | hp
  · obtain ⟨t, ht, rfl⟩ := List.mem_map.1 hp
    exact tile_words (tileOk_in (hf.ts t ht))
  · obtain ⟨l, hl, rfl⟩ := List.mem_map.1 hp
    intro x hx
    rcases List.mem_cons.1 (show x ∈ ptB (.str tEdge) :: (factsP true l).map ptB from hx) with rfl | hx
    · decide
    · exact (facts_words l true fun f hf' => factOk_in ((rowOk_in (hf.fs l hl)).1 f hf')).1 x hx
theorem show_sz28 {c : Cert} (h : fitsB c = true) : (showB c).size ≤ 23 * linesN (linesC c) := by
  have h1 := lines_sz28 (linesC c) ByteArray.empty (words_sz28 h)
  have h2 : (ByteArray.empty).size = 0 := rfl
  have e : linesB ByteArray.empty (linesC c) = showB c := by unfold linesC showB; rw [lines_app28]
  rw [e, h2] at h1
  omega
end Go.Proofs.YtppkanniefignaaGreatDoor
set_option linter.unusedSimpArgs false
set_option linter.unusedVariables false
namespace Go.Proofs.YtppkanniefignaaGreatDoor
open Go.RowKit
theorem Lexes.len28 {line col : Int} {rem : Bool} {L : List Int} {ws : List Word} (h : Lexes line col rem L ws) : ws.length ≤ L.length := by
  induction h with
  | nil => exact Nat.le_refl _
  | nl line col rem t ws h ih => simp only [List.length_cons]; omega
  | skip line col rem c t ws h0 h10 hs h ih => simp only [List.length_cons]; omega
  | num line col t l ws ht hb hl h ih => have := ht.ne; rw [List.length_append, List.length_cons]; omega
  | name line col t l ws h1 h2 h16 hl h ih =>
    have : 0 < t.length := by cases t <;> simp_all [headL]
    rw [List.length_append, List.length_cons]; omega
  | sign line col c t ws hs h ih => simp only [List.length_cons]; omega
end Go.Proofs.YtppkanniefignaaGreatDoor
set_option linter.unusedSimpArgs false
set_option linter.unusedVariables false
namespace Go.Proofs.YtppkanniefignaaGreatDoor
open Go.RowKit
theorem itemsF_len28 (s : ByteArray) : ∀ (f pos : Nat), (itemsF s f pos).length ≤ f
  | 0, _ => Nat.le_refl _
  | f + 1, pos => by
    unfold itemsF
    split
    · split
      · have := itemsF_len28 s f (pos + (Utf8.decode s pos).2); rw [List.length_cons]; omega
      · simp
    · exact Nat.zero_le _
theorem over_left28 (s : ByteArray) : leftC (overT s) ≤ s.size := by
  have h0 : (readR s).words.length ≤ s.size := by
    by_cases he : (readR s).err = 0
    · obtain ⟨ws, hw, hR, _⟩ := read_lexes he
      rw [hR]
      have h1 := hw.len28
      have h2 : (items s 0).length ≤ s.size - 0 := itemsF_len28 s _ _
      show ws.length ≤ _; omega
    · rw [(read_err s he).1]; simp
  have h1 : (overT s).ws.length ≤ s.size := by
    unfold overT
    split
    · exact Nat.zero_le _
    · have h2 := compK_len (readR s).words true
      have h3 : (dropEnd (compK true (readR s).words)).length ≤ (compK true (readR s).words).length := by
        unfold dropEnd
        split
        · split
          · simp
          · exact Nat.le_refl _
        · exact Nat.le_refl _
      simp only
      omega
  unfold leftC
  split <;> omega
/-- WHAT IS READ of a text of 6000 bytes at most CAN BE WRITTEN. -/
theorem parse_right28 {s : ByteArray} {c : Cert} {l k : Int} (hs : s.size ≤ 6000) (h : parse28 s = (c, l, k, 0)) : l = 0 ∧ k = 0 ∧ rightB c = true := by
  unfold parse28 at h
  rw [if_neg (by omega)] at h
  by_cases he : (errC (certC (overT s)).2).2.2 ≠ 0
  · rw [if_pos he] at h
    have := congrArg (fun x => x.2.2.2) h
    exact absurd this he
  · rw [if_neg he] at h
    injection h with h1 h2
    injection h2 with h2 h3
    injection h3 with h3 h4
    refine ⟨h2.symm, h3.symm, ?_⟩
    have he0 : (certC (overT s)).2.e = 0 := by
      by_cases hz : (certC (overT s)).2.e = 0
      · exact hz
      · exfalso; apply he; unfold errC; rw [if_pos hz]; exact hz
    obtain ⟨a1, a2⟩ := cert_in28 he0
    rw [h1] at a1 a2
    have a3 := over_left28 s
    have b1 := linesz28 (linesC c) ByteArray.empty (words_sz28 a1)
    have e : linesB ByteArray.empty (linesC c) = showB c := by unfold linesC showB; rw [lines_app28]
    have b2 : (ByteArray.empty).size = 0 := rfl
    rw [e, b2] at b1
    have b3 : linesZ (linesC c) ≤ 31 * tileN c.tiles + 31 * rowN c.facts := by
      unfold linesC
      rw [linesZ_app]
      have := tilesZ28 c.tiles
      have := edgesZ28 c.facts
      omega
    unfold rightB
    rw [a1, Bool.true_and, decide_eq_true_eq]
    omega
end Go.Proofs.YtppkanniefignaaGreatDoor
