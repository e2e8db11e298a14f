/- The document's Read: the walk. law01: same, awake, IsName; the program's and the document's. law01: the document's IsName; same, awake. law01: awake, WordReads: the walks. -/
import Derived.Test.YtppkanniefignaaDoorG7
import Derived.Test.YtppkanniefignaaDoorRDf
set_option linter.unusedSimpArgs false
set_option linter.unusedVariables false
namespace Go.Proofs.YtppkanniefignaaDoor
open Go.RowKit

theorem takeWhile_take {p : Int → Bool} : ∀ l : List Int, l.take (l.takeWhile p).length = l.takeWhile p
  | [] => rfl
  | c :: l => by
    rw [List.takeWhile_cons]
    split
    · rw [List.length_cons, List.take_succ_cons, takeWhile_take l]
    · rfl
theorem numT_take {l : List Int} (h : 0 < numLen l) : NumT (l.take (numLen l)) ∧ numLen l ≤ l.length := by
  cases l with
  | nil => exact absurd h (by decide)
  | cons c t =>
    rw [numLen_cons] at h ⊢
    by_cases hc : c = 45
    · rw [if_pos hc] at h ⊢
      by_cases h0 : (t.takeWhile isD).length = 0
      · rw [if_pos h0] at h; omega
      · rw [if_neg h0]
        refine ⟨⟨t.takeWhile isD, fun e => h0 (by rw [e]; rfl), takeWhile_mem t, .inr ?_⟩, ?_⟩
        · rw [List.take_succ_cons, takeWhile_take, hc]
        · have := (List.takeWhile_prefix isD (l := t)).length_le; simp; omega
    · rw [if_neg hc] at h ⊢
      refine ⟨⟨(c :: t).takeWhile isD, fun e => by rw [e] at h; exact absurd h (by decide), takeWhile_mem _, .inl (takeWhile_take _)⟩, ?_⟩
      exact (List.takeWhile_prefix isD (l := c :: t)).length_le
theorem head_at (s : ByteArray) (j : Nat) : headL (items s j) = (decide (0 < (atR s j).2) && isL (atR s j).1) := by
  by_cases hp : j < s.size
  · cases hg : goodAt s j with
    | true =>
      have hw := Lib.decode_width_pos s j hp
      rw [items_good hp hg, atR_good hp hg]
      show isL _ = _
      rw [show decide (0 < (Utf8.decode s j).2) = true by simp; omega, Bool.true_and]
    | false => rw [items_bad hp hg, atR_bad hg]; decide
  · rw [items_end hp, atR_out hp]; decide
theorem blk_two (w : World) (o o2 : Obj) : ((w.alloc o).alloc o2).heap[w.heap.size]? = some o := by
  rw [Below.heap_alloc _ _ _ (by simp)]; exact heap_alloc_new w _
theorem blk_two' (w : World) (o o2 : Obj) : ((w.alloc o).alloc o2).drew.heap[w.heap.size]? = some o := blk_two w o o2
theorem encode_ge (c : Int) : 1 ≤ (Utf8.encode c).size := by
  unfold Utf8.encode
  simp only
  repeat' split
  all_goals simp [ByteArray.size]
theorem rb_le : ∀ t : List Int, t.length ≤ (runesBytes t).size
  | [] => Nat.zero_le _
  | c :: t => by
    rw [runesBytes_cons, ByteArray.size_append, List.length_cons]
    have := rb_le t; have := encode_ge c; omega
theorem word_is (w : World) (S : Nat → Prop) (k n line col : Int) (text : ByteArray) (h0 : InI k) (h1 : text.size ≤ maxLen) (h2 : InI n) (h3 : InI line) (h4 : InI col) : Rep.is w S (⟨k, text, n, line, col⟩ : Word) [.int .i64 k, .string text, .int .i64 n, .int .i64 line, .int .i64 col] :=
  Word.mk_ (x := ⟨k, text, n, line, col⟩) h0 h1 h2 h3 h4
end Go.Proofs.YtppkanniefignaaDoor
set_option linter.unusedSimpArgs false
set_option linter.unusedVariables false
namespace Go.Proofs.YtppkanniefignaaDoor
open Go.RowKit

/-! ### names -/
def isNameR : Nat → List Int → Bool
  | n, [] => decide (1 ≤ n) && decide (n ≤ 16)
  | n, c :: l => if isL c = false ∧ (n = 0 ∨ isD c = false) then false else isNameR (n + 1) l
theorem isNameR_cons (n : Nat) (c : Int) (l : List Int) : isNameR n (c :: l) = if isL c = false ∧ (n = 0 ∨ isD c = false) then false else isNameR (n + 1) l := rfl
theorem isNameR_bad (n : Nat) (c : Int) (l : List Int) (h : isLD c = false) : isNameR n (c :: l) = false := by
  rw [isNameR_cons, if_pos]
  have h1 := h
  unfold isLD at h1
  simp only [Bool.or_eq_false_iff] at h1
  exact ⟨h1.1, .inr h1.2⟩
end Go.Proofs.YtppkanniefignaaDoor
set_option linter.unusedSimpArgs false
set_option linter.unusedVariables false
namespace Go.Proofs.YtppkanniefignaaDoor
open Go.RowKit

def R1 : ReadR := resS (runS (items ⟨#[120, 49, 32, 61, 32, 45, 53, 32, 59, 32, 102, 105, 118, 101]⟩ 0) st0)
def R2 : ReadR := resS (runS (items ⟨#[97, 98, 226, 134, 146, 99]⟩ 0) st0)
theorem aw1 : R1.err = 0 ∧ R1.words.length = 3 ∧ (R1.words[2]?).map (fun x => (x.n, x.kind)) = some (-5, 2) := by decide +kernel
theorem aw2 : R2.err = 0 ∧ R2.words.length = 3 ∧ (R2.words[1]?).map (fun x => x.col) = some 3 ∧ (R2.words[2]?).map (fun x => x.col) = some 4 := by decide +kernel
end Go.Proofs.YtppkanniefignaaDoor
set_option linter.unusedSimpArgs false
set_option linter.unusedVariables false
namespace Go.Proofs.YtppkanniefignaaDoor
open Go.RowKit

theorem Vars.ext {w : World} (h : Vars w) (u : Ext) : Vars (w.ext u) := h.below (Below.of_ext w u (Nat.le_refl _)) h.sz
def AwP1 (w : World) (e : Ending) (w' : World) : Prop := ∃ c l k b off, e = .returned (.tuple #[.slice (some ⟨b, off, none⟩) 3 c, .int .i64 l, .int .i64 k, .int .i64 0]) ∧ 3 ≤ c ∧ b < w'.heap.size ∧ w'.cell? ⟨b, off + 12, none⟩ = some (.int .i64 (-5)) ∧ w'.cell? ⟨b, off + 10, none⟩ = some (.int .i64 2) ∧ ∃ u : Ext, w' = w.ext u
def AwP2 (w : World) (e : Ending) (w' : World) : Prop := ∃ c l k b off, e = .returned (.tuple #[.slice (some ⟨b, off, none⟩) 3 c, .int .i64 l, .int .i64 k, .int .i64 0]) ∧ 3 ≤ c ∧ b < w'.heap.size ∧ w'.cell? ⟨b, off + 9, none⟩ = some (.int .i64 3) ∧ w'.cell? ⟨b, off + 14, none⟩ = some (.int .i64 4) ∧ ∃ u : Ext, w' = w.ext u
theorem aw_read1 (w : World) (hv : Vars w) : Calls Tryd.prog 18 #[.string ⟨#[120, 49, 32, 61, 32, 45, 53, 32, 59, 32, 102, 105, 118, 101]⟩] w (AwP1 w) := by
  refine (read_any _ w (by decide) hv).mono ?_
  rintro e w' ⟨A, n, c, rfl, hS, hu⟩
  obtain ⟨h1, h2, h3⟩ := aw1
  change Sl w' _ A n c R1.words at hS
  have hn : n = 3 := by rw [← hS.len, h2]
  subst hn
  obtain ⟨b, off, x, rfl, hb, hx, _, _, _, _, _, c0, c1, c2, c3, c4⟩ := at_Word hS (show 2 < 3 by decide)
  rw [hx] at h3
  simp only [Option.map_some, Option.some.injEq, Prod.mk.injEq] at h3
  rw [h3.2] at c0; rw [h3.1] at c2
  refine ⟨c, R1.line, R1.col, b, off, ?_, hS.2.1, hb, by simpa using c2, by simpa using c0, hu⟩
  show Ending.returned (.tuple #[.slice (some ⟨b, off, none⟩) 3 c, .int .i64 R1.line, .int .i64 R1.col, .int .i64 R1.err]) = _
  rw [h1]
theorem aw_read2 (w : World) (hv : Vars w) : Calls Tryd.prog 18 #[.string ⟨#[97, 98, 226, 134, 146, 99]⟩] w (AwP2 w) := by
  refine (read_any _ w (by decide) hv).mono ?_
  rintro e w' ⟨A, n, c, rfl, hS, hu⟩
  obtain ⟨h1, h2, h3, h4⟩ := aw2
  change Sl w' _ A n c R2.words at hS
  have hn : n = 3 := by rw [← hS.len, h2]
  subst hn
  obtain ⟨b, off, x, rfl, hb, hx, _, _, _, _, _, c0, c1, c2, c3, c4⟩ := at_Word hS (show 1 < 3 by decide)
  obtain ⟨b', off', x', e', hb', hx', _, _, _, _, _, d0, d1, d2, d3, d4⟩ := at_Word hS (show 2 < 3 by decide)
  injection e' with e'
  injection e' with e1 e2
  subst e1 e2
  rw [hx] at h3; rw [hx'] at h4
  simp only [Option.map_some, Option.some.injEq] at h3 h4
  rw [h3] at c4; rw [h4] at d4
  refine ⟨c, R2.line, R2.col, b, off, ?_, hS.2.1, hb, by simpa using c4, by simpa using d4, hu⟩
  show Ending.returned (.tuple #[.slice (some ⟨b, off, none⟩) 3 c, .int .i64 R2.line, .int .i64 R2.col, .int .i64 R2.err]) = _
  rw [h1]

end Go.Proofs.YtppkanniefignaaDoor
