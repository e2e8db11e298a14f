/- WordPlaces: the plain law. -/
import Derived.Test.YtmlopggainkoiaaDoorPB3
set_option linter.unusedSimpArgs false
set_option linter.unusedVariables false
namespace Go.Proofs.YtmlopggainkoiaaDoor

/-- The place behind a rune; ahead of the k-th one. -/
def stepP (c : Int) (p : Int × Int) : Int × Int := if c = 10 then (p.1 + 1, 1) else (p.1, p.2 + 1)
def posL (L : List Int) (k : Nat) : Int × Int := (L.take k).foldl (fun p c => stepP c p) (1, 1)
theorem posL_succ {L : List Int} {k : Nat} {c : Int} (h : L[k]? = some c) : posL L (k + 1) = stepP c (posL L k) := by
  unfold posL; rw [take_at h, List.foldl_append]; rfl
def LtP (a b : Int × Int) : Prop := a.1 < b.1 ∨ (a.1 = b.1 ∧ a.2 < b.2)
theorem LtP.trans {a b c : Int × Int} (h : LtP a b) (h' : LtP b c) : LtP a c := by unfold LtP at *; omega
theorem LtP.ne {a b : Int × Int} (h : LtP a b) : a ≠ b := by rintro rfl; unfold LtP at h; omega
theorem step_lt (c : Int) (p : Int × Int) : LtP p (stepP c p) := by
  unfold LtP stepP
  split
  · left; show p.1 < p.1 + 1; omega
  · right; exact ⟨rfl, by show p.2 < p.2 + 1; omega⟩
theorem posL_lt {L : List Int} : ∀ {p a : Nat}, a < p → p ≤ L.length → LtP (posL L a) (posL L p)
  | 0, a, h, _ => by omega
  | p + 1, a, h, hp => by
    have hl : p < L.length := by omega
    have e := posL_succ (List.getElem?_eq_getElem hl)
    have s := step_lt (L[p]) (posL L p)
    rw [e]
    by_cases hap : a = p
    · subst hap; exact s
    · exact (posL_lt (p := p) (a := a) (by omega) (by omega)).trans s

def Placed (L : List Int) : Nat → List Word → Prop
  | _, [] => True
  | a, w :: ws => ∃ p t r, a ≤ p ∧ posL L p = (w.line, w.col) ∧ L.drop p = t ++ r ∧ t ≠ [] ∧ (w.kind = 4 ∧ t = [10] ∨ w.kind ≠ 4 ∧ w.text = runesBytes t ∧ ∀ x ∈ t, VR x) ∧ Placed L p ws
theorem Placed.le {L : List Int} {a b : Nat} {ws : List Word} (h : Placed L b ws) (hab : a ≤ b) : Placed L a ws := by
  cases ws with
  | nil => trivial
  | cons w ws =>
    obtain ⟨p, t, r, h1, h2⟩ := h
    exact ⟨p, t, r, by omega, h2⟩
theorem drop_head {L : List Int} {a : Nat} {c : Int} {t : List Int} (h : L.drop a = c :: t) : L[a]? = some c ∧ L.drop (a + 1) = t := by
  have h0 : (L.drop a)[0]? = some c := by rw [h]; rfl
  rw [List.getElem?_drop] at h0
  refine ⟨by simpa using h0, ?_⟩
  rw [← List.drop_drop, h]; rfl
theorem posL_run {L : List Int} : ∀ {t l : List Int} {a : Nat}, L.drop a = t ++ l → (∀ x ∈ t, x ≠ 10) → posL L (a + t.length) = ((posL L a).1, (posL L a).2 + t.length) ∧ L.drop (a + t.length) = l
  | [], l, a, h, _ => by simpa using h
  | c :: t, l, a, h, hn => by
    obtain ⟨h1, h2⟩ := drop_head (t := t ++ l) h
    obtain ⟨e1, e2⟩ := posL_run h2 (fun x hx => hn x (by simp [hx]))
    have hs : posL L (a + 1) = ((posL L a).1, (posL L a).2 + 1) := by rw [posL_succ h1]; unfold stepP; rw [if_neg (hn c (by simp))]
    rw [hs] at e1
    rw [List.length_cons, show a + (t.length + 1) = a + 1 + t.length by omega]
    refine ⟨?_, e2⟩
    rw [e1]
    simp only [Prod.mk.injEq, true_and]
    push_cast
    omega
theorem Lexes.placed {line col : Int} {rem : Bool} {T : List Int} {ws : List Word} (h : Lexes line col rem T ws) : ∀ (L : List Int) (a : Nat), L.drop a = T → posL L a = (line, col) → Placed L a ws := by
  induction h with
  | nil line col rem => intro _ _ _ _; trivial
  | nl line col rem t ws h ih =>
    intro L a hd hp
    obtain ⟨h1, h2⟩ := drop_head hd
    have := ih L (a + 1) h2 (by rw [posL_succ h1, hp]; rfl)
    exact ⟨a, [10], t, Nat.le_refl _, hp, hd, by simp, .inl ⟨rfl, rfl⟩, this.le (by omega)⟩
  | skip line col rem c t ws h0 h10 hs h ih =>
    intro L a hd hp
    obtain ⟨h1, h2⟩ := drop_head hd
    exact (ih L (a + 1) h2 (by rw [posL_succ h1, hp]; unfold stepP; rw [if_neg h10])).le (by omega)
  | num line col t l ws ht hb hl h ih =>
    intro L a hd hp
    obtain ⟨e1, e2⟩ := posL_run hd (fun x hx => by
      obtain ⟨d, h1, h2, h3⟩ := ht
      rcases h3 with rfl | rfl
      · have := isD_iff.1 (h2 x hx); omega
      · rcases List.mem_cons.1 hx with rfl | hx
        · decide
        · have := isD_iff.1 (h2 x hx); omega)
    have := ih L (a + t.length) e2 (by rw [e1, hp])
    exact ⟨a, t, l, Nat.le_refl _, hp, hd, by intro e; have := ht.ne; rw [e] at this; simp at this, .inr ⟨(by decide : (2 : Int) ≠ 4), rfl, ht.VR⟩, this.le (by omega)⟩
  | name line col t l ws h1 h2 h16 hl h ih =>
    intro L a hd hp
    obtain ⟨e1, e2⟩ := posL_run hd (fun x hx => by have := isLD_pos (h2 x hx); omega)
    have := ih L (a + t.length) e2 (by rw [e1, hp])
    exact ⟨a, t, l, Nat.le_refl _, hp, hd, (by intro e; rw [e] at h1; cases h1), .inr ⟨(by decide : (1 : Int) ≠ 4), rfl, fun x hx => LD_VR (h2 x hx)⟩, this.le (by omega)⟩
  | sign line col c t ws hs h ih =>
    intro L a hd hp
    obtain ⟨h1, h2⟩ := drop_head hd
    have := ih L (a + 1) h2 (by rw [posL_succ h1, hp]; unfold stepP; rw [if_neg (sign_facts hs []).2.1])
    exact ⟨a, [c], t, Nat.le_refl _, hp, hd, by simp, .inr ⟨(by decide : (3 : Int) ≠ 4), (runesBytes_one c).symm, fun x hx => by simp at hx; subst hx; exact S_VR hs⟩, this.le (by omega)⟩

/-! ### a line more ahead, a remark behind -/
def wA : Word := ⟨1, runesBytes [97], 0, 1, 1⟩
def wNL : Word := ⟨4, ByteArray.empty, 0, 1, 2⟩
theorem head_bytes : runesBytes [97, 10] = ⟨#[97, 10]⟩ := by
  apply bytes_ext
  rw [runesBytes_list, List.flatMap_cons, List.flatMap_cons, List.flatMap_nil, List.append_nil]
  rw [show (97 : Int) = ((97 : Nat) : Int) from rfl, show (10 : Int) = ((10 : Nat) : Int) from rfl, enc1 (by decide), enc1 (by decide)]; rfl
theorem tail_bytes : runesBytes [59, 32, 8594, 120] = ⟨#[59, 32, 226, 134, 146, 120]⟩ := by
  apply bytes_ext
  rw [runesBytes_list, List.flatMap_cons, List.flatMap_cons, List.flatMap_cons, List.flatMap_cons, List.flatMap_nil, List.append_nil]
  rw [show (59 : Int) = ((59 : Nat) : Int) from rfl, show (32 : Int) = ((32 : Nat) : Int) from rfl, show (8594 : Int) = ((8594 : Nat) : Int) from rfl, show (120 : Int) = ((120 : Nat) : Int) from rfl, enc1 (c := 59) (by decide), enc1 (c := 32) (by decide), enc1 (c := 120) (by decide), enc3 (c := 8594) (by decide) (by decide) (by decide)]; rfl
theorem read_down (s : ByteArray) : readR (⟨#[97, 10]⟩ ++ s) = downR [wA, wNL] (readR s) := by
  have hi : items (⟨#[97, 10]⟩ ++ s) 0 = 97 :: 10 :: items s 0 := by
    rw [← head_bytes, items_runes _ _ (by intro x hx; simp at hx; unfold VR; omega)]; rfl
  rw [readR_ref, readR_ref, hi]
  have e : (97 : Int) :: 10 :: items s 0 = [97] ++ (10 :: items s 0) := rfl
  rw [e]
  have hlen : ([97] ++ (10 :: items s 0) : List Int).length + 1 = (items s 0).length + 1 + 1 + 1 := by simp
  rw [hlen, refL_name (by decide) (by intro x hx; simp at hx; subst hx; decide) (by intro c l' e; injection e with e _; subst e; decide), if_neg (by decide), refL_cons, if_neg (by decide), if_pos rfl]
  exact ref_down [wA, wNL] ((items s 0).length + 1) 1 1 false (items s 0) []
theorem read_more {s : ByteArray} {ws : List Word} (h : Lexes 1 1 false (items s 0) ws) : readR (s ++ ⟨#[59, 32, 226, 134, 146, 120]⟩) = ⟨ws, 0, 0, 0⟩ := by
  obtain ⟨e, hv⟩ := runes_items h.pos
  obtain ⟨L, hL⟩ : ∃ L, items s 0 = L := ⟨_, rfl⟩
  rw [hL] at h e hv
  have hi : items (s ++ ⟨#[59, 32, 226, 134, 146, 120]⟩) 0 = L ++ 59 :: [32, 8594, 120] := by
    rw [e, items_runes _ _ hv, ← tail_bytes, items_of_runes _ (by intro x hx; simp at hx; unfold VR; omega)]
  rw [readR_ref, hi]
  rw [(h.more [32, 8594, 120] (by intro x hx; simp at hx; omega)).ref _ _ (Nat.lt_succ_self _)]; rfl
theorem read_placed {s : ByteArray} {ws : List Word} (h : Lexes 1 1 false (items s 0) ws) : Placed (items s 0) 0 ws := h.placed _ 0 rfl rfl
end Go.Proofs.YtmlopggainkoiaaDoor
