/- law05: the machine of a text as plain data: what the program's Parse does and what the document's does; they are one. -/
import Derived.Test.YtcfimcghckjmeaaGreatDoorL2i
import Derived.Test.YtcfimcghckjmeaaGreatDoorG17
set_option linter.unusedSimpArgs false
set_option linter.unusedVariables false
namespace Go.Proofs.YtcfimcghckjmeaaGreatDoor

def keyK (t : ByteArray) (s : Cur) : Cur := if isC (.nm t) s = true then popC s else failC 7 s
/-- The program's test for one number more; the document's. -/
def goA (s : Cur) : Bool := moreC s && (!endsC s && (peekC s).toList == [])
def goB (s : Cur) : Bool := match headC s with
  | some w => w.kind == 2
  | none => false
def regsF (go : Cur → Bool) : Nat → Cur → List Int × Cur
  | 0, s => ([], s)
  | f + 1, s => if go s = true then ((numC 0 64 s).1 :: (regsF go f (numC 0 64 s).2).1, (regsF go f (numC 0 64 s).2).2) else ([], s)
def fuelC (s : Cur) : Nat := if s.e = 0 then s.ws.length else 0
def regsC (go : Cur → Bool) (s : Cur) : List Int × Cur := regsF go (fuelC s) s
/-- A test that only lets a number or something that is none through. -/
def GoOk (go : Cur → Bool) : Prop := ∀ s, go s = true → s.e = 0 ∧ s.ws ≠ []
theorem goA_ok : GoOk goA := fun s h => by
  unfold goA moreC at h
  simp only [Bool.and_eq_true, beq_iff_eq, Bool.not_eq_true'] at h
  refine ⟨h.1.1, fun e => ?_⟩
  have := h.1.2
  rw [e] at this
  cases this
theorem goB_ok : GoOk goB := fun s h => by
  unfold goB headC at h
  by_cases he : s.e = 0
  · rw [if_pos he] at h
    refine ⟨he, fun e => ?_⟩
    rw [e] at h
    cases h
  · rw [if_neg he] at h
    cases h
theorem pop_e (s : Cur) : (popC s).e = s.e := rfl
theorem fail_e7 {s : Cur} (h : s.e = 0) {x : Int} (hx : x ≠ 0) : (failC x s).e = x := by
  unfold failC
  rw [if_neg (by intro c; rcases c with c | c; exact c h; exact hx c)]
  split <;> rfl
theorem fail_bad {s : Cur} (h : s.e ≠ 0) (x : Int) : failC x s = s := by unfold failC; rw [if_pos (.inl h)]
theorem num_fuel {s : Cur} (h : s.e = 0) (hw : s.ws ≠ []) : fuelC (numC 0 64 s).2 + 1 ≤ fuelC s := by
  obtain ⟨w, l, hl⟩ : ∃ w l, s.ws = w :: l := by
    cases hs : s.ws with
    | nil => exact absurd hs hw
    | cons w l => exact ⟨w, l, rfl⟩
  have hf : fuelC s = l.length + 1 := by unfold fuelC; rw [if_pos h, hl]; rfl
  have hz : ∀ x : Int, x ≠ 0 → fuelC (failC x s) = 0 := fun x hx => by unfold fuelC; rw [if_neg (by rw [fail_e7 h hx]; exact hx)]
  have hp : fuelC (popC s) = l.length := by unfold fuelC; rw [if_pos (show (popC s).e = 0 from h)]; unfold popC; rw [hl]; rfl
  rw [hf]
  unfold numC
  split
  · split
    · split
      · rw [hz 3 (by decide)]; omega
      · rw [hp]; omega
    · rw [hz 7 (by decide)]; omega
  · rw [hz 7 (by decide)]; omega
theorem regsF_more {go : Cur → Bool} (hg : GoOk go) : ∀ (f g : Nat) (s : Cur), fuelC s ≤ f → fuelC s ≤ g → regsF go f s = regsF go g s
  | 0, 0, _, _, _ => rfl
  | 0, g + 1, s, h, _ => by
    have : go s ≠ true := fun c => by
      obtain ⟨he, hw⟩ := hg s c
      have := num_fuel he hw
      omega
    show ([], s) = if _ then _ else _
    rw [if_neg this]
  | f + 1, 0, s, _, h => by
    have : go s ≠ true := fun c => by
      obtain ⟨he, hw⟩ := hg s c
      have := num_fuel he hw
      omega
    show (if _ then _ else _) = ([], s)
    rw [if_neg this]
  | f + 1, g + 1, s, h1, h2 => by
    show (if _ then _ else _) = if _ then _ else _
    by_cases c : go s = true
    · rw [if_pos c, if_pos c]
      obtain ⟨he, hw⟩ := hg s c
      have := num_fuel he hw
      rw [regsF_more hg f g _ (by omega) (by omega)]
    · rw [if_neg c, if_neg c]
theorem regsC_go {go : Cur → Bool} (hg : GoOk go) {s : Cur} (h : go s = true) : regsC go s = ((numC 0 64 s).1 :: (regsC go (numC 0 64 s).2).1, (regsC go (numC 0 64 s).2).2) := by
  obtain ⟨he, hw⟩ := hg s h
  have := num_fuel he hw
  unfold regsC
  obtain ⟨k, hk⟩ : ∃ k, fuelC s = k + 1 := ⟨fuelC s - 1, by omega⟩
  rw [hk]
  show (if _ then _ else _) = _
  rw [if_pos h, regsF_more hg k (fuelC (numC 0 64 s).2) _ (by omega) (Nat.le_refl _)]
theorem regsC_no {go : Cur → Bool} {s : Cur} (h : go s = false) : regsC go s = ([], s) := by
  unfold regsC
  cases fuelC s with
  | zero => rfl
  | succ k => show (if _ then _ else _) = _; rw [if_neg (by rw [h]; decide)]

def tMachine : ByteArray := ⟨#[109, 97, 99, 104, 105, 110, 101]⟩
def tArgs : ByteArray := ⟨#[97, 114, 103, 115]⟩
def tRet : ByteArray := ⟨#[114, 101, 116]⟩
def tSaved : ByteArray := ⟨#[115, 97, 118, 101, 100]⟩
def readM (go : Cur → Bool) (s0 : Cur) : Machine × Cur :=
  let r := numC 0 64 (keyK tMachine s0)
  let a := regsC go (keyK tArgs r.2)
  let t := numC 0 64 (keyK tRet a.2)
  let v := regsC go (keyK tSaved t.2)
  (⟨r.1, a.1, t.1, v.1⟩, v.2)
def zeroM : Machine := ⟨0, [], 0, []⟩
/-- What is told of a machine that was read, and the error. -/
def endM (m : Machine) (e : Int) : Machine × Int := if e ≠ 0 then (zeroM, e) else if rightM m = true then (m, 0) else (zeroM, 2)
def parseT (go : Cur → Bool) (s : ByteArray) : Machine × Int :=
  if 262144 < s.size then (zeroM, 3) else endM (readM go (overT s)).1 (errC (readM go (overT s)).2).2.2

/-! ### they are one -/
theorem keyK_ok {s : Cur} (h : CurOk s) (t : ByteArray) : CurOk (keyK t s) := by
  unfold keyK
  split
  · exact popC_ok h
  · exact failC_ok h
theorem isC_bad {s : Cur} (h : s.e ≠ 0) (v : Has) : isC v s = false := by unfold isC; rw [show headC s = none from by unfold headC; rw [if_neg h]]
theorem keyK_bad {s : Cur} (h : s.e ≠ 0) (t : ByteArray) : keyK t s = s := by
  unfold keyK
  rw [isC_bad h, if_neg (by decide), fail_bad h]
theorem numC_bad {s : Cur} (h : s.e ≠ 0) : (numC 0 64 s).2 = s := by
  unfold numC
  rw [show headC s = none from by unfold headC; rw [if_neg h]]
  exact fail_bad h 7
theorem go_bad {go : Cur → Bool} (hg : GoOk go) {s : Cur} (h : s.e ≠ 0) : go s = false := by
  cases hh : go s
  · rfl
  · exact absurd (hg s hh).1 h
theorem regsC_bad {go : Cur → Bool} (hg : GoOk go) {s : Cur} (h : s.e ≠ 0) : regsC go s = ([], s) := regsC_no (go_bad hg h)
/-- What stands where the document's row of numbers ends and the program's is broken. -/
def Stuck (a b : Cur) : Prop := a = failC 7 b ∧ b.e = 0 ∧ ∃ w l, b.ws = w :: l ∧ (w.kind = 3 ∨ (w.kind = 1 ∧ w.text.toList = []))
theorem regs_alike : ∀ (f : Nat) (s : Cur), CurOk s → fuelC s ≤ f → regsF goA f s = regsF goB f s ∨ Stuck (regsF goA f s).2 (regsF goB f s).2
  | 0, s, _, _ => .inl rfl
  | f + 1, s, hok, hf => by
    show (if _ then _ else _) = (if _ then _ else _) ∨ Stuck (Prod.snd (if _ then _ else _)) (Prod.snd (if _ then _ else _))
    by_cases he : s.e = 0
    · cases hw : s.ws with
      | nil =>
        have h1 : goA s ≠ true := fun c => (goA_ok s c).2 hw
        have h2 : goB s ≠ true := fun c => (goB_ok s c).2 hw
        rw [if_neg h1, if_neg h2]
        exact .inl rfl
      | cons w l =>
        have hh : headC s = some w := by unfold headC; rw [if_pos he, hw]; rfl
        have hm : moreC s = true := by unfold moreC; rw [he, hw]; rfl
        have hA : goA s = (!(w.kind == 4) && (peekC s).toList == []) := by unfold goA endsC; rw [hm, hh]; rfl
        have hB : goB s = (w.kind == 2) := by unfold goB; rw [hh]
        have hp : (peekC s).toList = if w.kind = 1 then w.text.toList else [] := by
          unfold peekC
          rw [hh]
          simp only
          split
          · rfl
          · rw [ByteArray.toList_eq]; rfl
        have stuck : (w.kind = 3 ∨ (w.kind = 1 ∧ w.text.toList = [])) → goA s = true → goB s = false → regsF goA (f + 1) s = regsF goB (f + 1) s ∨ Stuck (regsF goA (f + 1) s).2 (regsF goB (f + 1) s).2 := by
          intro hk h1 h2
          refine .inr ?_
          have hn : (numC 0 64 s).2 = failC 7 s := by
            unfold numC
            rw [hh]
            simp only
            rw [if_neg (by rcases hk with hk | hk <;> omega)]
          have hne : (failC 7 s).e ≠ 0 := by rw [fail_e7 he (by decide)]; decide
          have e1 : (regsF goA (f + 1) s).2 = failC 7 s := by
            show Prod.snd (if _ then _ else _) = _
            rw [if_pos h1]
            show (regsF goA f _).2 = _
            rw [hn, regsF_more goA_ok f (fuelC (failC 7 s)) _ (by unfold fuelC; rw [if_neg hne]; omega) (Nat.le_refl _)]
            exact congrArg Prod.snd (regsC_bad goA_ok hne)
          have e2 : (regsF goB (f + 1) s).2 = s := by
            show Prod.snd (if _ then _ else _) = _
            rw [if_neg (by rw [h2]; decide)]
          rw [e1, e2]
          exact ⟨rfl, he, w, l, hw, hk⟩
        rcases hok.k w (by rw [hw]; simp) with hk | hk | hk | hk
        · by_cases ht : w.text.toList = []
          · exact stuck (.inr ⟨hk, ht⟩) (by rw [hA, hp, if_pos hk, ht, hk]; decide) (by rw [hB, hk]; decide)
          · have h1 : goA s ≠ true := by rw [hA, hp, if_pos hk]; simp [ht]
            have h2 : goB s ≠ true := by rw [hB, hk]; decide
            rw [if_neg h1, if_neg h2]
            exact .inl rfl
        · have h1 : goA s = true := by rw [hA, hp, if_neg (by omega), hk]; decide
          have h2 : goB s = true := by rw [hB, hk]; decide
          rw [if_pos h1, if_pos h2]
          have := num_fuel he (by rw [hw]; simp)
          rcases regs_alike f (numC 0 64 s).2 (numC_ok hok 0 64) (by omega) with h | h
          · exact .inl (by rw [h])
          · exact .inr h
        · exact stuck (.inl hk) (by rw [hA, hp, if_neg (by omega), hk]; decide) (by rw [hB, hk]; decide)
        · have h1 : goA s ≠ true := by rw [hA, hk, show (!((4 : Int) == 4)) = false from rfl, Bool.false_and]; decide
          have h2 : goB s ≠ true := by rw [hB, hk]; decide
          rw [if_neg h1, if_neg h2]
          exact .inl rfl
    · have h1 : goA s ≠ true := fun c => he (goA_ok s c).1
      have h2 : goB s ≠ true := fun c => he (goB_ok s c).1
      rw [if_neg h1, if_neg h2]
      exact .inl rfl
theorem Stuck.e {a b : Cur} (h : Stuck a b) : a.e = 7 := by rw [h.1, fail_e7 h.2.1 (by decide)]
theorem Stuck.key {a b : Cur} (h : Stuck a b) {t : ByteArray} (ht : t.toList ≠ []) : keyK t a = a ∧ keyK t b = a := by
  have he := h.e
  obtain ⟨h1, h2, w, l, hw, hk⟩ := h
  refine ⟨keyK_bad (by omega) t, ?_⟩
  have : isC (.nm t) b = false := by
    unfold isC headC
    rw [if_pos h2, hw]
    simp only [List.head?_cons]
    unfold hasW
    rcases hk with hk | ⟨hk, hx⟩
    · rw [hk]; rfl
    · rw [if_pos hk]
      show (w.text.toList == t.toList) = false
      rw [hx]
      simpa using ht
  unfold keyK
  rw [this, if_neg (by decide), h1]
theorem Stuck.err {a b : Cur} (h : Stuck a b) : (errC a).2.2 = 7 ∧ (errC b).2.2 = 7 := by
  have he := h.e
  obtain ⟨h1, h2, w, l, hw, hk⟩ := h
  refine ⟨?_, ?_⟩
  · unfold errC; rw [if_pos (by omega)]; exact he
  · unfold errC; rw [if_neg (by omega), hw]
theorem errC_bad {s : Cur} (h : s.e ≠ 0) : (errC s).2.2 = s.e := by unfold errC; rw [if_pos h]
theorem regsC_ok {go : Cur → Bool} (hg : GoOk go) : ∀ (f : Nat) (s : Cur), CurOk s → CurOk (regsF go f s).2
  | 0, _, h => h
  | f + 1, s, h => by
    show CurOk (Prod.snd (if _ then _ else _))
    split
    · exact regsC_ok hg f _ (numC_ok h 0 64)
    · exact h
theorem read_alike (s : Cur) (hok : CurOk s) : (errC (readM goA s).2).2.2 = (errC (readM goB s).2).2.2 ∧ ((errC (readM goB s).2).2.2 = 0 → (readM goA s).1 = (readM goB s).1) := by
  unfold readM
  simp only
  generalize hr : numC 0 64 (keyK tMachine s) = r
  have hok1 : CurOk (keyK tArgs r.2) := by rw [← hr]; exact keyK_ok (numC_ok (keyK_ok hok _) 0 64) _
  generalize keyK tArgs r.2 = s3 at hok1
  rcases regs_alike (fuelC s3) s3 hok1 (Nat.le_refl _) with h | h
  · have h' : regsC goA s3 = regsC goB s3 := h
    rw [h']
    have hok2 : CurOk (keyK tSaved (numC 0 64 (keyK tRet (regsC goB s3).2)).2) := keyK_ok (numC_ok (keyK_ok (regsC_ok goB_ok _ _ hok1) _) 0 64) _
    generalize keyK tSaved (numC 0 64 (keyK tRet (regsC goB s3).2)).2 = s7 at hok2
    rcases regs_alike (fuelC s7) s7 hok2 (Nat.le_refl _) with h2 | h2
    · have h2' : regsC goA s7 = regsC goB s7 := h2
      rw [h2']
      exact ⟨rfl, fun _ => rfl⟩
    · have h2' : Stuck (regsC goA s7).2 (regsC goB s7).2 := h2
      obtain ⟨e1, e2⟩ := h2'.err
      refine ⟨e1.trans e2.symm, fun e => ?_⟩
      rw [e2] at e
      cases e
  · have h' : Stuck (regsC goA s3).2 (regsC goB s3).2 := h
    obtain ⟨k1, k2⟩ := h'.key (t := tRet) (by rw [ByteArray.toList_eq]; decide)
    have he := h'.e
    rw [k1, k2]
    have hne : (regsC goA s3).2.e ≠ 0 := by omega
    rw [numC_bad hne, keyK_bad hne, regsC_bad goA_ok hne, regsC_bad goB_ok hne]
    refine ⟨rfl, fun e => ?_⟩
    rw [errC_bad hne] at e
    omega
theorem parse_alike (s : ByteArray) (hok : CurOk (overT s)) : parseT goA s = parseT goB s := by
  unfold parseT
  split
  · rfl
  · obtain ⟨h1, h2⟩ := read_alike (overT s) hok
    rw [h1]
    by_cases he : (errC (readM goB (overT s)).2).2.2 = 0
    · rw [h2 he]
    · unfold endM
      rw [if_pos he, if_pos he]
end Go.Proofs.YtcfimcghckjmeaaGreatDoor
