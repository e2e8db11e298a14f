/- law05: the machine of a text as plain data: what the program's Parse does and what the document's does; they are one. law05: what is printed of a right machine is read as that machine: the plain law. -/
import Derived.Test.YtcfimcghckjmeaaGreatDoorL2i
import Derived.Test.YtcfimcghckjmeaaGreatDoorG17
import Derived.Test.YtcfimcghckjmeaaGreatDoorG24
import Derived.Test.YtcfimcghckjmeaaGreatDoorG18
set_option linter.unusedSimpArgs false
set_option linter.unusedVariables false
namespace Go.Proofs.YtcfimcghckjmeaaGreatDoor

def keyK (t : ByteArray) (s : Cur) : Cur := if isC (.nm t) s = true then popC s else failC 7 s
/-- The program's test for one number more; the document's. -/
def goA (s : Cur) : Bool := moreC s && (!endsC s && (peekC s).toList == [])
def goB (s : Cur) : Bool := match headC s with
  | some w => w.kind == 2
  | none => false
def regsF (go : Cur → Bool) : Nat → Cur → List Int × Cur
  | 0, s => ([], s)
  | f + 1, s => if go s = true then ((numC 0 64 s).1 :: (regsF go f (numC 0 64 s).2).1, (regsF go f (numC 0 64 s).2).2) else ([], s)
def fuelC (s : Cur) : Nat := if s.e = 0 then s.ws.length else 0
def regsC (go : Cur → Bool) (s : Cur) : List Int × Cur := regsF go (fuelC s) s
/-- A test that only lets a number or something that is none through. -/
def GoOk (go : Cur → Bool) : Prop := ∀ s, go s = true → s.e = 0 ∧ s.ws ≠ []
theorem goA_ok : GoOk goA := fun s h => by
  unfold goA moreC at h
  simp only [Bool.and_eq_true, beq_iff_eq, Bool.not_eq_true'] at h
  refine ⟨h.1.1, fun e => ?_⟩
  have := h.1.2
  rw [e] at this
  cases this
theorem goB_ok : GoOk goB := fun s h => by
  unfold goB headC at h
  by_cases he : s.e = 0
  · rw [if_pos he] at h
    refine ⟨he, fun e => ?_⟩
    rw [e] at h
    cases h
  · rw [if_neg he] at h
    cases h
theorem pop_e (s : Cur) : (popC s).e = s.e := rfl
theorem fail_e7 {s : Cur} (h : s.e = 0) {x : Int} (hx : x ≠ 0) : (failC x s).e = x := by
  unfold failC
  rw [if_neg (by intro c; rcases c with c | c; exact c h; exact hx c)]
  split <;> rfl
theorem fail_bad {s : Cur} (h : s.e ≠ 0) (x : Int) : failC x s = s := by unfold failC; rw [if_pos (.inl h)]
theorem num_fuel {s : Cur} (h : s.e = 0) (hw : s.ws ≠ []) : fuelC (numC 0 64 s).2 + 1 ≤ fuelC s := by
  obtain ⟨w, l, hl⟩ : ∃ w l, s.ws = w :: l := by
    cases hs : s.ws with
    | nil => exact absurd hs hw
    | cons w l => exact ⟨w, l, rfl⟩
  have hf : fuelC s = l.length + 1 := by unfold fuelC; rw [if_pos h, hl]; rfl
  have hz : ∀ x : Int, x ≠ 0 → fuelC (failC x s) = 0 := fun x hx => by unfold fuelC; rw [if_neg (by rw [fail_e7 h hx]; exact hx)]
  have hp : fuelC (popC s) = l.length := by unfold fuelC; rw [if_pos (show (popC s).e = 0 from h)]; unfold popC; rw [hl]; rfl
  rw [hf]
  unfold numC
  split
  · split
    · split
      · rw [hz 3 (by decide)]; omega
      · rw [hp]; omega
    · rw [hz 7 (by decide)]; omega
  · rw [hz 7 (by decide)]; omega
theorem regsF_more {go : Cur → Bool} (hg : GoOk go) : ∀ (f g : Nat) (s : Cur), fuelC s ≤ f → fuelC s ≤ g → regsF go f s = regsF go g s
  | 0, 0, _, _, _ => rfl
  | 0, g + 1, s, h, _ => by
    have : go s ≠ true := fun c => by
      obtain ⟨he, hw⟩ := hg s c
      have := num_fuel he hw
      omega
    show ([], s) = if _ then _ else _
    rw [if_neg this]
  | f + 1, 0, s, _, h => by
    have : go s ≠ true := fun c => by
      obtain ⟨he, hw⟩ := hg s c
      have := num_fuel he hw
      omega
    show (if _ then _ else _) = ([], s)
    rw [if_neg this]
  | f + 1, g + 1, s, h1, h2 => by
    show (if _ then _ else _) = if _ then _ else _
    by_cases c : go s = true
    · rw [if_pos c, if_pos c]
      obtain ⟨he, hw⟩ := hg s c
      have := num_fuel he hw
      rw [regsF_more hg f g _ (by omega) (by omega)]
    · rw [if_neg c, if_neg c]
theorem regsC_go {go : Cur → Bool} (hg : GoOk go) {s : Cur} (h : go s = true) : regsC go s = ((numC 0 64 s).1 :: (regsC go (numC 0 64 s).2).1, (regsC go (numC 0 64 s).2).2) := by
  obtain ⟨he, hw⟩ := hg s h
  have := num_fuel he hw
  unfold regsC
  obtain ⟨k, hk⟩ : ∃ k, fuelC s = k + 1 := ⟨fuelC s - 1, by omega⟩
  rw [hk]
  show (if _ then _ else _) = _
  rw [if_pos h, regsF_more hg k (fuelC (numC 0 64 s).2) _ (by omega) (Nat.le_refl _)]
theorem regsC_no {go : Cur → Bool} {s : Cur} (h : go s = false) : regsC go s = ([], s) := by
  unfold regsC
  cases fuelC s with
  | zero => rfl
  | succ k => show (if _ then _ else _) = _; rw [if_neg (by rw [h]; decide)]

def tMachine : ByteArray := ⟨#[109, 97, 99, 104, 105, 110, 101]⟩
def tArgs : ByteArray := ⟨#[97, 114, 103, 115]⟩
def tRet : ByteArray := ⟨#[114, 101, 116]⟩
def tSaved : ByteArray := ⟨#[115, 97, 118, 101, 100]⟩
def readM (go : Cur → Bool) (s0 : Cur) : Machine × Cur :=
  let r := numC 0 64 (keyK tMachine s0)
  let a := regsC go (keyK tArgs r.2)
  let t := numC 0 64 (keyK tRet a.2)
  let v := regsC go (keyK tSaved t.2)
  (⟨r.1, a.1, t.1, v.1⟩, v.2)
def zeroM : Machine := ⟨0, [], 0, []⟩
/-- What is told of a machine that was read, and the error. -/
def endM (m : Machine) (e : Int) : Machine × Int := if e ≠ 0 then (zeroM, e) else if rightM m = true then (m, 0) else (zeroM, 2)
def parseT (go : Cur → Bool) (s : ByteArray) : Machine × Int :=
  if 262144 < s.size then (zeroM, 3) else endM (readM go (overT s)).1 (errC (readM go (overT s)).2).2.2

/-! ### they are one -/
theorem keyK_ok {s : Cur} (h : CurOk s) (t : ByteArray) : CurOk (keyK t s) := by
  unfold keyK
  split
  · exact popC_ok h
  · exact failC_ok h
theorem isC_bad {s : Cur} (h : s.e ≠ 0) (v : Has) : isC v s = false := by unfold isC; rw [show headC s = none from by unfold headC; rw [if_neg h]]
theorem keyK_bad {s : Cur} (h : s.e ≠ 0) (t : ByteArray) : keyK t s = s := by
  unfold keyK
  rw [isC_bad h, if_neg (by decide), fail_bad h]
theorem numC_bad {s : Cur} (h : s.e ≠ 0) : (numC 0 64 s).2 = s := by
  unfold numC
  rw [show headC s = none from by unfold headC; rw [if_neg h]]
  exact fail_bad h 7
theorem go_bad {go : Cur → Bool} (hg : GoOk go) {s : Cur} (h : s.e ≠ 0) : go s = false := by
  cases hh : go s
  · rfl
  · exact absurd (hg s hh).1 h
theorem regsC_bad {go : Cur → Bool} (hg : GoOk go) {s : Cur} (h : s.e ≠ 0) : regsC go s = ([], s) := regsC_no (go_bad hg h)
/-- What stands where the document's row of numbers ends and the program's is broken. -/
def Stuck (a b : Cur) : Prop := a = failC 7 b ∧ b.e = 0 ∧ ∃ w l, b.ws = w :: l ∧ (w.kind = 3 ∨ (w.kind = 1 ∧ w.text.toList = []))
theorem regs_alike : ∀ (f : Nat) (s : Cur), CurOk s → fuelC s ≤ f → regsF goA f s = regsF goB f s ∨ Stuck (regsF goA f s).2 (regsF goB f s).2
  | 0, s, _, _ => .inl rfl
  | f + 1, s, hok, hf => by
    show (if _ then _ else _) = (if _ then _ else _) ∨ Stuck (Prod.snd (if _ then _ else _)) (Prod.snd (if _ then _ else _))
    by_cases he : s.e = 0
    · cases hw : s.ws with
      | nil =>
        have h1 : goA s ≠ true := fun c => (goA_ok s c).2 hw
        have h2 : goB s ≠ true := fun c => (goB_ok s c).2 hw
        rw [if_neg h1, if_neg h2]
        exact .inl rfl
      | cons w l =>
        have hh : headC s = some w := by unfold headC; rw [if_pos he, hw]; rfl
        have hm : moreC s = true := by unfold moreC; rw [he, hw]; rfl
        have hA : goA s = (!(w.kind == 4) && (peekC s).toList == []) := by unfold goA endsC; rw [hm, hh]; rfl
        have hB : goB s = (w.kind == 2) := by unfold goB; rw [hh]
        have hp : (peekC s).toList = if w.kind = 1 then w.text.toList else [] := by
          unfold peekC
          rw [hh]
          simp only
          split
          · rfl
          · rw [ByteArray.toList_eq]; rfl
        have stuck : (w.kind = 3 ∨ (w.kind = 1 ∧ w.text.toList = [])) → goA s = true → goB s = false → regsF goA (f + 1) s = regsF goB (f + 1) s ∨ Stuck (regsF goA (f + 1) s).2 (regsF goB (f + 1) s).2 := by
          intro hk h1 h2
          refine .inr ?_
          have hn : (numC 0 64 s).2 = failC 7 s := by
            unfold numC
            rw [hh]
            simp only
            rw [if_neg (by rcases hk with hk | hk <;> omega)]
          have hne : (failC 7 s).e ≠ 0 := by rw [fail_e7 he (by decide)]; decide
          have e1 : (regsF goA (f + 1) s).2 = failC 7 s := by
            show Prod.snd (if _ then _ else _) = _
            rw [if_pos h1]
            show (regsF goA f _).2 = _
            rw [hn, regsF_more goA_ok f (fuelC (failC 7 s)) _ (by unfold fuelC; rw [if_neg hne]; omega) (Nat.le_refl _)]
            exact congrArg Prod.snd (regsC_bad goA_ok hne)
          have e2 : (regsF goB (f + 1) s).2 = s := by
            show Prod.snd (if _ then _ else _) = _
            rw [if_neg (by rw [h2]; decide)]
          rw [e1, e2]
          exact ⟨rfl, he, w, l, hw, hk⟩
        rcases hok.k w (by rw [hw]; simp) with hk | hk | hk | hk
        · by_cases ht : w.text.toList = []
          · exact stuck (.inr ⟨hk, ht⟩) (by rw [hA, hp, if_pos hk, ht, hk]; decide) (by rw [hB, hk]; decide)
          · have h1 : goA s ≠ true := by rw [hA, hp, if_pos hk]; simp [ht]
            have h2 : goB s ≠ true := by rw [hB, hk]; decide
            rw [if_neg h1, if_neg h2]
            exact .inl rfl
        · have h1 : goA s = true := by rw [hA, hp, if_neg (by omega), hk]; decide
          have h2 : goB s = true := by rw [hB, hk]; decide
          rw [if_pos h1, if_pos h2]
          have := num_fuel he (by rw [hw]; simp)
          rcases regs_alike f (numC 0 64 s).2 (numC_ok hok 0 64) (by omega) with h | h
          · exact .inl (by rw [h])
          · exact .inr h
        · exact stuck (.inl hk) (by rw [hA, hp, if_neg (by omega), hk]; decide) (by rw [hB, hk]; decide)
        · have h1 : goA s ≠ true := by rw [hA, hk, show (!((4 : Int) == 4)) = false from rfl, Bool.false_and]; decide
          have h2 : goB s ≠ true := by rw [hB, hk]; decide
          rw [if_neg h1, if_neg h2]
          exact .inl rfl
    · have h1 : goA s ≠ true := fun c => he (goA_ok s c).1
      have h2 : goB s ≠ true := fun c => he (goB_ok s c).1
      rw [if_neg h1, if_neg h2]
      exact .inl rfl
theorem Stuck.e {a b : Cur} (h : Stuck a b) : a.e = 7 := by rw [h.1, fail_e7 h.2.1 (by decide)]
theorem Stuck.key {a b : Cur} (h : Stuck a b) {t : ByteArray} (ht : t.toList ≠ []) : keyK t a = a ∧ keyK t b = a := by
  have he := h.e
  obtain ⟨h1, h2, w, l, hw, hk⟩ := h
  refine ⟨keyK_bad (by omega) t, ?_⟩
  have : isC (.nm t) b = false := by
    unfold isC headC
    rw [if_pos h2, hw]
    simp only [List.head?_cons]
    unfold hasW
    rcases hk with hk | ⟨hk, hx⟩
    · rw [hk]; rfl
    · rw [if_pos hk]
      show (w.text.toList == t.toList) = false
      rw [hx]
      simpa using ht
  unfold keyK
  rw [this, if_neg (by decide), h1]
theorem Stuck.err {a b : Cur} (h : Stuck a b) : (errC a).2.2 = 7 ∧ (errC b).2.2 = 7 := by
  have he := h.e
  obtain ⟨h1, h2, w, l, hw, hk⟩ := h
  refine ⟨?_, ?_⟩
  · unfold errC; rw [if_pos (by omega)]; exact he
  · unfold errC; rw [if_neg (by omega), hw]
theorem errC_bad {s : Cur} (h : s.e ≠ 0) : (errC s).2.2 = s.e := by unfold errC; rw [if_pos h]
theorem regsC_ok {go : Cur → Bool} (hg : GoOk go) : ∀ (f : Nat) (s : Cur), CurOk s → CurOk (regsF go f s).2
  | 0, _, h => h
  | f + 1, s, h => by
    show CurOk (Prod.snd (if _ then _ else _))
    split
    · exact regsC_ok hg f _ (numC_ok h 0 64)
    · exact h
theorem read_alike (s : Cur) (hok : CurOk s) : (errC (readM goA s).2).2.2 = (errC (readM goB s).2).2.2 ∧ ((errC (readM goB s).2).2.2 = 0 → (readM goA s).1 = (readM goB s).1) := by
  unfold readM
  simp only
  generalize hr : numC 0 64 (keyK tMachine s) = r
  have hok1 : CurOk (keyK tArgs r.2) := by rw [← hr]; exact keyK_ok (numC_ok (keyK_ok hok _) 0 64) _
  generalize keyK tArgs r.2 = s3 at hok1
  rcases regs_alike (fuelC s3) s3 hok1 (Nat.le_refl _) with h | h
  · have h' : regsC goA s3 = regsC goB s3 := h
    rw [h']
    have hok2 : CurOk (keyK tSaved (numC 0 64 (keyK tRet (regsC goB s3).2)).2) := keyK_ok (numC_ok (keyK_ok (regsC_ok goB_ok _ _ hok1) _) 0 64) _
    generalize keyK tSaved (numC 0 64 (keyK tRet (regsC goB s3).2)).2 = s7 at hok2
    rcases regs_alike (fuelC s7) s7 hok2 (Nat.le_refl _) with h2 | h2
    · have h2' : regsC goA s7 = regsC goB s7 := h2
      rw [h2']
      exact ⟨rfl, fun _ => rfl⟩
    · have h2' : Stuck (regsC goA s7).2 (regsC goB s7).2 := h2
      obtain ⟨e1, e2⟩ := h2'.err
      refine ⟨e1.trans e2.symm, fun e => ?_⟩
      rw [e2] at e
      cases e
  · have h' : Stuck (regsC goA s3).2 (regsC goB s3).2 := h
    obtain ⟨k1, k2⟩ := h'.key (t := tRet) (by rw [ByteArray.toList_eq]; decide)
    have he := h'.e
    rw [k1, k2]
    have hne : (regsC goA s3).2.e ≠ 0 := by omega
    rw [numC_bad hne, keyK_bad hne, regsC_bad goA_ok hne, regsC_bad goB_ok hne]
    refine ⟨rfl, fun e => ?_⟩
    rw [errC_bad hne] at e
    omega
theorem parse_alike (s : ByteArray) (hok : CurOk (overT s)) : parseT goA s = parseT goB s := by
  unfold parseT
  split
  · rfl
  · obtain ⟨h1, h2⟩ := read_alike (overT s) hok
    rw [h1]
    by_cases he : (errC (readM goB (overT s)).2).2.2 = 0
    · rw [h2 he]
    · unfold endM
      rw [if_pos he, if_pos he]
end Go.Proofs.YtcfimcghckjmeaaGreatDoor
set_option linter.unusedSimpArgs false
set_option linter.unusedVariables false
namespace Go.Proofs.YtcfimcghckjmeaaGreatDoor

/-- A word, and numbers behind it. -/
def rowB : ByteArray → List Int → ByteArray
  | b, [] => b
  | b, n :: l => rowB (b ++ (⟨#[32]⟩ ++ itoaB n)) l
def printB (m : Machine) : ByteArray :=
  rowB tMachine [m.regs] ++ (⟨#[32]⟩ ++ rowB tArgs m.args) ++ (⟨#[32]⟩ ++ rowB tRet [m.ret]) ++ (⟨#[32]⟩ ++ rowB tSaved m.saved) ++ ⟨#[10]⟩
theorem rowB_app : ∀ (l : List Int) (a b : ByteArray), rowB (a ++ b) l = a ++ rowB b l
  | [], _, _ => rfl
  | n :: l, a, b => by
    show rowB (a ++ b ++ _) l = a ++ rowB (b ++ _) l
    rw [ByteArray.append_assoc, rowB_app l]

def nmW (t : ByteArray) : Word := ⟨1, t, 0, 0, 0⟩
def nuW (n : Int) : Word := ⟨2, itoaB n, n, 0, 0⟩
def eolW : Word := ⟨4, ByteArray.empty, 0, 0, 0⟩
/-- A machine's words. -/
def wsM (m : Machine) : List Word := nmW tMachine :: nuW m.regs :: nmW tArgs :: (m.args.map nuW ++ (nmW tRet :: nuW m.ret :: nmW tSaved :: m.saved.map nuW))
theorem right_nu {n : Int} (h0 : 0 ≤ n) (h1 : n ≤ 64) : rightW (nuW n) = true := by
  unfold rightW nuW
  simp; omega
theorem right_eol : rightW eolW = true := by decide +kernel
theorem right_tm : rightW (nmW tMachine) = true := by decide +kernel
theorem right_ta : rightW (nmW tArgs) = true := by decide +kernel
theorem right_tr : rightW (nmW tRet) = true := by decide +kernel
theorem right_ts : rightW (nmW tSaved) = true := by decide +kernel
theorem show_nm {t : ByteArray} (ht : rightW (nmW t) = true) (l : List Word) (out : ByteArray) : showF false (nmW t :: l) out = showF false l (out ++ (⟨#[32]⟩ ++ t)) := by
  rw [showF_cons, if_neg (by rw [ht]; decide), if_neg (by show ¬ (1 : Int) = 4; decide), if_neg (by decide), ByteArray.append_assoc]
  rfl
theorem show_nu {n : Int} (h0 : 0 ≤ n) (h1 : n ≤ 64) (l : List Word) (out : ByteArray) : showF false (nuW n :: l) out = showF false l (out ++ (⟨#[32]⟩ ++ itoaB n)) := by
  rw [showF_cons, if_neg (by rw [right_nu h0 h1]; decide), if_neg (by show ¬ (2 : Int) = 4; decide), if_neg (by decide), ByteArray.append_assoc]
  rfl
theorem show_row : ∀ (xs : List Int) (l : List Word) (out : ByteArray), (∀ x ∈ xs, 0 ≤ x ∧ x ≤ 64) → showF false (xs.map nuW ++ l) out = showF false l (rowB out xs)
  | [], _, _, _ => rfl
  | x :: xs, l, out, h => by
    have hx := h x (by simp)
    show showF false (nuW x :: (xs.map nuW ++ l)) out = showF false l (rowB (out ++ _) xs)
    rw [show_nu hx.1 hx.2, show_row xs l _ fun y hy => h y (List.mem_cons_of_mem _ hy)]
/-- What is held of a machine's numbers. -/
structure NumsM (m : Machine) : Prop where
  r : 0 ≤ m.regs ∧ m.regs ≤ 64
  t : 0 ≤ m.ret ∧ m.ret ≤ 64
  a : ∀ x ∈ m.args, 0 ≤ x ∧ x ≤ 64
  s : ∀ x ∈ m.saved, 0 ≤ x ∧ x ≤ 64
theorem rightM_all {m : Machine} (h : rightM m = true) : 1 ≤ m.regs ∧ m.regs ≤ 64 ∧ m.args.length ≤ 8 ∧ (m.saved.length : Int) ≤ m.regs ∧ 0 ≤ m.ret ∧ m.ret < m.regs ∧ hasI m.ret m.saved = false ∧ argsOk m.regs [] m.args = true ∧ savedOk m.regs none m.saved = true := by
  simp only [rightM, Bool.and_eq_true, decide_eq_true_eq, Bool.not_eq_true'] at h
  obtain ⟨⟨⟨⟨⟨⟨⟨⟨a1, a2⟩, a3⟩, a4⟩, a5⟩, a6⟩, a7⟩, a8⟩, a9⟩ := h
  exact ⟨a1, a2, a3, a4, a5, a6, a7, a8, a9⟩
theorem rightM_nums {m : Machine} (h : rightM m = true) : NumsM m := by
  obtain ⟨a1, a2, a3, a4, a5, a6, a7, a8, a9⟩ := rightM_all h
  have b1 := ((argsOk_iff _ _ _).1 a8).1
  have b2 := ((savedOk_iff _ _ _).1 a9).1
  exact ⟨by omega, by omega, fun x hx => by have := b1 x hx; omega, fun x hx => by have := b2 x hx; omega⟩
theorem show_end (out : ByteArray) : showF false [eolW] out = some (out ++ ⟨#[10]⟩) := by
  rw [showF_cons, if_neg (by rw [right_eol]; decide), if_pos (show eolW.kind = 4 from rfl)]
  rfl
theorem shown_m {m : Machine} (h : NumsM m) : showF true (wsM m ++ [eolW]) ByteArray.empty = some (printB m) := by
  have e0 : wsM m ++ [eolW] = nmW tMachine :: ([m.regs].map nuW ++ (nmW tArgs :: (m.args.map nuW ++ (nmW tRet :: ([m.ret].map nuW ++ (nmW tSaved :: (m.saved.map nuW ++ [eolW]))))))) := by
    unfold wsM
    simp
  rw [e0, showF_cons, if_neg (by rw [right_tm]; decide), if_neg (by show ¬ (1 : Int) = 4; decide), if_pos rfl]
  rw [show_row [m.regs] _ _ (by intro x hx; simp at hx; subst hx; exact h.r)]
  rw [show_nm right_ta, show_row m.args _ _ h.a, show_nm right_tr, show_row [m.ret] _ _ (by intro x hx; simp at hx; subst hx; exact h.t), show_nm right_ts, show_row m.saved _ _ h.s, show_end]
  have e1 : ByteArray.empty ++ (nmW tMachine).text = tMachine := by apply bytes_ext; simp [nmW]
  rw [e1]
  unfold printB
  simp only [rowB_app, ByteArray.append_assoc]
theorem totL_app : ∀ a b : List Word, totL (a ++ b) = totL a + totL b
  | [], b => by simp [totL]
  | x :: a, b => by rw [List.cons_append]; simp only [totL]; rw [totL_app a b]; omega
theorem itoa_small : ∀ k : Fin 65, (itoaB (k.val : Int)).size ≤ 2 := by decide +kernel
theorem itoa_le {n : Int} (h0 : 0 ≤ n) (h1 : n ≤ 64) : (itoaB n).size ≤ 2 := by
  have := itoa_small ⟨n.toNat, by omega⟩
  simp only at this
  rw [show ((n.toNat : Nat) : Int) = n from by omega] at this
  exact this
theorem totL_nums : ∀ xs : List Int, (∀ x ∈ xs, 0 ≤ x ∧ x ≤ 64) → totL (xs.map nuW) ≤ 3 * xs.length
  | [], _ => Nat.le_refl _
  | x :: xs, h => by
    have hx := h x (by simp)
    have := totL_nums xs fun y hy => h y (List.mem_cons_of_mem _ hy)
    have h2 := itoa_le hx.1 hx.2
    rw [List.map_cons]
    simp only [totL, List.length_cons]
    show (itoaB x).size + 1 + _ ≤ _
    omega
theorem print_size {m : Machine} (h : NumsM m) : (printB m).size ≤ 35 + 3 * (m.args.length + m.saved.length) := by
  obtain ⟨_, _, h3⟩ := back_shown (shown_m h)
  have e0 : wsM m ++ [eolW] = [nmW tMachine] ++ ([m.regs].map nuW ++ ([nmW tArgs] ++ (m.args.map nuW ++ ([nmW tRet] ++ ([m.ret].map nuW ++ ([nmW tSaved] ++ (m.saved.map nuW ++ [eolW]))))))) := by
    unfold wsM
    simp
  rw [e0] at h3
  simp only [totL_app] at h3
  have t1 : totL [nmW tMachine] = 8 := by decide
  have t2 : totL [nmW tArgs] = 5 := by decide
  have t3 : totL [nmW tRet] = 4 := by decide
  have t4 : totL [nmW tSaved] = 6 := by decide
  have t5 : totL [eolW] = 1 := by decide
  have t6 := totL_nums [m.regs] (by intro x hx; simp at hx; subst hx; exact h.r)
  have t7 := totL_nums [m.ret] (by intro x hx; simp at hx; subst hx; exact h.t)
  have t8 := totL_nums m.args h.a
  have t9 := totL_nums m.saved h.s
  simp only [List.length_cons, List.length_nil] at t6 t7
  omega

/-! ### cursors that differ in places alone -/
section
variable {a b : Cur}
theorem CurSim.ends (h : CurSim a b) : endsC a = endsC b := by
  unfold endsC
  rcases h.head with ⟨h1, h2⟩ | ⟨x, y, h1, h2, h3⟩
  · rw [h1, h2]
  · rw [h1, h2]; simp only [(core_parts h3).1]
theorem CurSim.peek (h : CurSim a b) : peekC a = peekC b := by
  unfold peekC
  rcases h.head with ⟨h1, h2⟩ | ⟨x, y, h1, h2, h3⟩
  · rw [h1, h2]
  · rw [h1, h2]; simp only [(core_parts h3).1, (core_parts h3).2.1]
theorem CurSim.goA (h : CurSim a b) : goA a = goA b := by unfold Proofs.YtcfimcghckjmeaaGreatDoor.goA; rw [h.more, h.ends, h.peek]
theorem CurSim.key (h : CurSim a b) (t : ByteArray) : CurSim (keyK t a) (keyK t b) := by
  unfold keyK
  rw [h.is]
  split
  · exact h.pop
  · exact h.fail 7
theorem regsF_sim : ∀ (f : Nat) {a b : Cur}, CurSim a b → (regsF Proofs.YtcfimcghckjmeaaGreatDoor.goA f a).1 = (regsF Proofs.YtcfimcghckjmeaaGreatDoor.goA f b).1 ∧ CurSim (regsF Proofs.YtcfimcghckjmeaaGreatDoor.goA f a).2 (regsF Proofs.YtcfimcghckjmeaaGreatDoor.goA f b).2
  | 0, _, _, h => ⟨rfl, h⟩
  | f + 1, a, b, h => by
    show (Prod.fst (if _ then _ else _)) = (Prod.fst (if _ then _ else _)) ∧ CurSim (Prod.snd (if _ then _ else _)) (Prod.snd (if _ then _ else _))
    rw [h.goA]
    obtain ⟨h1, h2⟩ := h.num 0 64
    obtain ⟨h3, h4⟩ := regsF_sim f h2
    split
    · exact ⟨by rw [h1, h3], h4⟩
    · exact ⟨rfl, h⟩
theorem CurSim.fuel (h : CurSim a b) : fuelC a = fuelC b := by
  unfold fuelC
  rw [h.2]
  have := congrArg List.length h.1
  rw [List.length_map, List.length_map] at this
  rw [this]
theorem CurSim.regs (h : CurSim a b) : (regsC Proofs.YtcfimcghckjmeaaGreatDoor.goA a).1 = (regsC Proofs.YtcfimcghckjmeaaGreatDoor.goA b).1 ∧ CurSim (regsC Proofs.YtcfimcghckjmeaaGreatDoor.goA a).2 (regsC Proofs.YtcfimcghckjmeaaGreatDoor.goA b).2 := by
  unfold regsC
  rw [h.fuel]
  exact regsF_sim _ h
theorem CurSim.read (h : CurSim a b) : (readM Proofs.YtcfimcghckjmeaaGreatDoor.goA a).1 = (readM Proofs.YtcfimcghckjmeaaGreatDoor.goA b).1 ∧ CurSim (readM Proofs.YtcfimcghckjmeaaGreatDoor.goA a).2 (readM Proofs.YtcfimcghckjmeaaGreatDoor.goA b).2 := by
  unfold readM
  simp only
  obtain ⟨h1, k1⟩ := (h.key tMachine).num 0 64
  obtain ⟨h2, k2⟩ := (k1.key tArgs).regs
  obtain ⟨h3, k3⟩ := (k2.key tRet).num 0 64
  obtain ⟨h4, k4⟩ := (k3.key tSaved).regs
  exact ⟨by rw [h1, h2, h3, h4], k4⟩
end

/-! ### a machine's words are read -/
abbrev C0 (l : List Word) : Cur := ⟨l, 0, 0, 0⟩
theorem head_C0 (x : Word) (l : List Word) : headC (C0 (x :: l)) = some x := rfl
theorem key_hit (t : ByteArray) (l : List Word) : keyK t (C0 (nmW t :: l)) = C0 l := by
  have : isC (.nm t) (C0 (nmW t :: l)) = true := by
    unfold isC
    rw [head_C0]
    show (t.toList == t.toList) = true
    simp
  unfold keyK
  rw [if_pos this]
  rfl
theorem num_hit {n : Int} (h0 : 0 ≤ n) (h1 : n ≤ 64) (l : List Word) : numC 0 64 (C0 (nuW n :: l)) = (n, C0 l) := by
  unfold numC
  rw [head_C0]
  show (if (2 : Int) = 2 then (if n < 0 ∨ 64 < n then _ else (n, popC _)) else _) = _
  rw [if_pos rfl, if_neg (by omega)]
  rfl
theorem go_nu (n : Int) (l : List Word) : goA (C0 (nuW n :: l)) = true := by
  show (true && (!false && ByteArray.empty.toList == [])) = true
  rw [ByteArray.toList_eq]; rfl
theorem go_nil : goA (C0 []) = false := rfl
theorem go_nm {t : ByteArray} (ht : t.toList ≠ []) (l : List Word) : goA (C0 (nmW t :: l)) = false := by
  show (true && (!false && t.toList == [])) = false
  simp [ht]
theorem regs_hit : ∀ (xs : List Int) (l : List Word), (∀ x ∈ xs, 0 ≤ x ∧ x ≤ 64) → goA (C0 l) = false → regsC goA (C0 (xs.map nuW ++ l)) = (xs, C0 l)
  | [], l, _, hl => regsC_no hl
  | x :: xs, l, h, hl => by
    have hx := h x (by simp)
    show regsC goA (C0 (nuW x :: (xs.map nuW ++ l))) = _
    rw [regsC_go goA_ok (go_nu x _), num_hit hx.1 hx.2]
    simp only
    rw [regs_hit xs l (fun y hy => h y (List.mem_cons_of_mem _ hy)) hl]
theorem read_words {m : Machine} (h : NumsM m) : readM goA (C0 (wsM m)) = (m, C0 []) := by
  have e1 : keyK tMachine (C0 (wsM m)) = C0 (nuW m.regs :: nmW tArgs :: (m.args.map nuW ++ (nmW tRet :: nuW m.ret :: nmW tSaved :: m.saved.map nuW))) := key_hit _ _
  have e4 := regs_hit m.saved [] h.s go_nil
  rw [List.append_nil] at e4
  unfold readM
  simp only [e1, num_hit h.r.1 h.r.2, key_hit, regs_hit m.args _ h.a (go_nm (t := tRet) (by rw [ByteArray.toList_eq]; decide) _), num_hit h.t.1 h.t.2, e4]

/-! ### the words of a text that is printed -/
theorem compK_last_end : ∀ (xs : List Word) (y : Word), (∀ x ∈ xs, endW x = false) → compK false (xs ++ [y]) = xs ++ [y]
  | [], y, _ => by rw [List.nil_append, compK_cons, if_neg (by simp)]; rfl
  | x :: xs, y, h => by
    have hx := h x (by simp)
    rw [List.cons_append, compK_cons, if_neg (by simp), hx, compK_last_end xs y fun z hz => h z (List.mem_cons_of_mem _ hz)]
theorem compK_head_end (x : Word) (xs : List Word) (y : Word) (hx : endW x = false) (h : ∀ x ∈ xs, endW x = false) : compK true (x :: (xs ++ [y])) = x :: (xs ++ [y]) := by
  rw [compK_cons, if_neg (by simp [hx]), hx, compK_last_end xs y h]
theorem compK_core : ∀ (a b : List Word) (c : Bool), a.map core = b.map core → (compK c a).map core = (compK c b).map core ∧ lastE c a = lastE c b
  | [], [], _, _ => ⟨rfl, rfl⟩
  | [], _ :: _, _, h => by cases h
  | _ :: _, [], _, h => by cases h
  | x :: a, y :: b, c, h => by
    rw [List.map_cons, List.map_cons] at h
    injection h with h1 h2
    have he := core_end h1
    obtain ⟨i1, i2⟩ := compK_core a b (endW y) h2
    refine ⟨?_, ?_⟩
    · rw [compK_cons, compK_cons, he]
      by_cases hc : c = true ∧ endW y = true
      · rw [if_pos hc, if_pos hc]
        exact (compK_core a b true h2).1
      · rw [if_neg hc, if_neg hc, List.map_cons, List.map_cons, h1, i1]
    · show lastE (endW x) a = lastE (endW y) b
      rw [he]
      exact i2
theorem end_nm (t : ByteArray) : endW (nmW t) = false := rfl
theorem end_nu (n : Int) : endW (nuW n) = false := rfl
theorem over_print {m : Machine} (h : NumsM m) : CurSim (overT (printB m)) (C0 (wsM m)) := by
  obtain ⟨h1, h2, _⟩ := back_shown (shown_m h)
  have hs : SimR (readR (printB m)) ⟨wsM m ++ [eolW], 0, 0, 0⟩ := ⟨h1, fun _ => compK_core _ _ true h2⟩
  have hv := over_sim _ _ hs
  have hne : ∀ x ∈ (wsM m).tail, endW x = false := by
    intro x hx
    unfold wsM at hx
    simp only [List.tail_cons, List.mem_cons, List.mem_append, List.mem_map] at hx
    rcases hx with rfl | rfl | ⟨y, _, rfl⟩ | rfl | rfl | rfl | ⟨y, _, rfl⟩ <;> rfl
  have hc : compK true (wsM m ++ [eolW]) = wsM m ++ [eolW] := by
    have hsplit : wsM m = nmW tMachine :: (wsM m).tail := rfl
    rw [hsplit, List.cons_append]
    exact compK_head_end _ _ _ rfl hne
  have hd : dropEnd (wsM m ++ [eolW]) = wsM m := by
    unfold dropEnd
    rw [List.getLast?_append]
    show (if endW eolW = true then _ else _) = _
    rw [if_pos (show endW eolW = true from rfl)]
    simp
  simp only at hv
  rw [hc, hd] at hv
  rw [if_neg (show ¬ ((0 : Int) ≠ 0) by simp)] at hv
  exact hv
theorem parse_print {m : Machine} (h : rightM m = true) : parseT goA (printB m) = (m, 0) := by
  have hn := rightM_nums h
  obtain ⟨a1, a2, a3, a4, _⟩ := rightM_all h
  have hsz := print_size hn
  have hsim := (over_print hn).read
  rw [read_words hn] at hsim
  unfold parseT
  rw [if_neg (by omega), hsim.1, hsim.2.err]
  show endM m 0 = (m, 0)
  unfold endM
  rw [if_neg (by simp), if_pos h]
end Go.Proofs.YtcfimcghckjmeaaGreatDoor
