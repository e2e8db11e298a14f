/- law05: what is printed of a right machine is read as that machine: the plain law. law05: walks: a machine's text. -/
import Derived.Test.YtcfimcghckjmeaaDoorM5a
import Derived.Test.YtcfimcghckjmeaaDoorG24
import Derived.Test.YtcfimcghckjmeaaDoorG18
import Derived.Test.YtcfimcghckjmeaaDoorM5d
import Derived.Test.YtcfimcghckjmeaaDoorG10
import Derived.Lib.ItoaLen
import Derived.Test.YtcfimcghckjmeaaDoorG3
set_option linter.unusedSimpArgs false
set_option linter.unusedVariables false
namespace Go.Proofs.YtcfimcghckjmeaaDoor

/-- A word, and numbers behind it. -/
def rowB : ByteArray → List Int → ByteArray
  | b, [] => b
  | b, n :: l => rowB (b ++ (⟨#[32]⟩ ++ itoaB n)) l
def printB (m : Machine) : ByteArray :=
  rowB tMachine [m.regs] ++ (⟨#[32]⟩ ++ rowB tArgs m.args) ++ (⟨#[32]⟩ ++ rowB tRet [m.ret]) ++ (⟨#[32]⟩ ++ rowB tSaved m.saved) ++ ⟨#[10]⟩
theorem rowB_app : ∀ (l : List Int) (a b : ByteArray), rowB (a ++ b) l = a ++ rowB b l
  | [], _, _ => rfl
  | n :: l, a, b => by
    show rowB (a ++ b ++ _) l = a ++ rowB (b ++ _) l
    rw [ByteArray.append_assoc, rowB_app l]

def nmW (t : ByteArray) : Word := ⟨1, t, 0, 0, 0⟩
def nuW (n : Int) : Word := ⟨2, itoaB n, n, 0, 0⟩
def eolW : Word := ⟨4, ByteArray.empty, 0, 0, 0⟩
/-- A machine's words. -/
def wsM (m : Machine) : List Word := nmW tMachine :: nuW m.regs :: nmW tArgs :: (m.args.map nuW ++ (nmW tRet :: nuW m.ret :: nmW tSaved :: m.saved.map nuW))
theorem right_nu {n : Int} (h0 : 0 ≤ n) (h1 : n ≤ 64) : rightW (nuW n) = true := by
  unfold rightW nuW
  simp; omega
theorem right_eol : rightW eolW = true := by decide +kernel
theorem right_tm : rightW (nmW tMachine) = true := by decide +kernel
theorem right_ta : rightW (nmW tArgs) = true := by decide +kernel
theorem right_tr : rightW (nmW tRet) = true := by decide +kernel
theorem right_ts : rightW (nmW tSaved) = true := by decide +kernel
theorem show_nm {t : ByteArray} (ht : rightW (nmW t) = true) (l : List Word) (out : ByteArray) : showF false (nmW t :: l) out = showF false l (out ++ (⟨#[32]⟩ ++ t)) := by
  rw [showF_cons, if_neg (by rw [ht]; decide), if_neg (by show ¬ (1 : Int) = 4; decide), if_neg (by decide), ByteArray.append_assoc]
  rfl
theorem show_nu {n : Int} (h0 : 0 ≤ n) (h1 : n ≤ 64) (l : List Word) (out : ByteArray) : showF false (nuW n :: l) out = showF false l (out ++ (⟨#[32]⟩ ++ itoaB n)) := by
  rw [showF_cons, if_neg (by rw [right_nu h0 h1]; decide), if_neg (by show ¬ (2 : Int) = 4; decide), if_neg (by decide), ByteArray.append_assoc]
  rfl
theorem show_row : ∀ (xs : List Int) (l : List Word) (out : ByteArray), (∀ x ∈ xs, 0 ≤ x ∧ x ≤ 64) → showF false (xs.map nuW ++ l) out = showF false l (rowB out xs)
  | [], _, _, _ => rfl
  | x :: xs, l, out, h => by
    have hx := h x (by simp)
    show showF false (nuW x :: (xs.map nuW ++ l)) out = showF false l (rowB (out ++ _) xs)
    rw [show_nu hx.1 hx.2, show_row xs l _ fun y hy => h y (List.mem_cons_of_mem _ hy)]
/-- What is held of a machine's numbers. -/
structure NumsM (m : Machine) : Prop where
  r : 0 ≤ m.regs ∧ m.regs ≤ 64
  t : 0 ≤ m.ret ∧ m.ret ≤ 64
  a : ∀ x ∈ m.args, 0 ≤ x ∧ x ≤ 64
  s : ∀ x ∈ m.saved, 0 ≤ x ∧ x ≤ 64
theorem rightM_all {m : Machine} (h : rightM m = true) : 1 ≤ m.regs ∧ m.regs ≤ 64 ∧ m.args.length ≤ 8 ∧ (m.saved.length : Int) ≤ m.regs ∧ 0 ≤ m.ret ∧ m.ret < m.regs ∧ hasI m.ret m.saved = false ∧ argsOk m.regs [] m.args = true ∧ savedOk m.regs none m.saved = true := by
  simp only [rightM, Bool.and_eq_true, decide_eq_true_eq, Bool.not_eq_true'] at h
  obtain ⟨⟨⟨⟨⟨⟨⟨⟨a1, a2⟩, a3⟩, a4⟩, a5⟩, a6⟩, a7⟩, a8⟩, a9⟩ := h
  exact ⟨a1, a2, a3, a4, a5, a6, a7, a8, a9⟩
theorem rightM_nums {m : Machine} (h : rightM m = true) : NumsM m := by
  obtain ⟨a1, a2, a3, a4, a5, a6, a7, a8, a9⟩ := rightM_all h
  have b1 := ((argsOk_iff _ _ _).1 a8).1
  have b2 := ((savedOk_iff _ _ _).1 a9).1
  exact ⟨by omega, by omega, fun x hx => by have := b1 x hx; omega, fun x hx => by have := b2 x hx; omega⟩
theorem show_end (out : ByteArray) : showF false [eolW] out = some (out ++ ⟨#[10]⟩) := by
  rw [showF_cons, if_neg (by rw [right_eol]; decide), if_pos (show eolW.kind = 4 from rfl)]
  rfl
theorem shown_m {m : Machine} (h : NumsM m) : showF true (wsM m ++ [eolW]) ByteArray.empty = some (printB m) := by
  have e0 : wsM m ++ [eolW] = nmW tMachine :: ([m.regs].map nuW ++ (nmW tArgs :: (m.args.map nuW ++ (nmW tRet :: ([m.ret].map nuW ++ (nmW tSaved :: (m.saved.map nuW ++ [eolW]))))))) := by
    unfold wsM
    simp
  rw [e0, showF_cons, if_neg (by rw [right_tm]; decide), if_neg (by show ¬ (1 : Int) = 4; decide), if_pos rfl]
  rw [show_row [m.regs] _ _ (by intro x hx; simp at hx; subst hx; exact h.r)]
  rw [show_nm right_ta, show_row m.args _ _ h.a, show_nm right_tr, show_row [m.ret] _ _ (by intro x hx; simp at hx; subst hx; exact h.t), show_nm right_ts, show_row m.saved _ _ h.s, show_end]
  have e1 : ByteArray.empty ++ (nmW tMachine).text = tMachine := by apply bytes_ext; simp [nmW]
  rw [e1]
  unfold printB
  simp only [rowB_app, ByteArray.append_assoc]
theorem totL_app : ∀ a b : List Word, totL (a ++ b) = totL a + totL b
  | [], b => by simp [totL]
  | x :: a, b => by rw [List.cons_append]; simp only [totL]; rw [totL_app a b]; omega
theorem itoa_small : ∀ k : Fin 65, (itoaB (k.val : Int)).size ≤ 2 := by decide +kernel
theorem itoa_le {n : Int} (h0 : 0 ≤ n) (h1 : n ≤ 64) : (itoaB n).size ≤ 2 := by
  have := itoa_small ⟨n.toNat, by omega⟩
  simp only at this
  rw [show ((n.toNat : Nat) : Int) = n from by omega] at this
  exact this
theorem totL_nums : ∀ xs : List Int, (∀ x ∈ xs, 0 ≤ x ∧ x ≤ 64) → totL (xs.map nuW) ≤ 3 * xs.length
  | [], _ => Nat.le_refl _
  | x :: xs, h => by
    have hx := h x (by simp)
    have := totL_nums xs fun y hy => h y (List.mem_cons_of_mem _ hy)
    have h2 := itoa_le hx.1 hx.2
    rw [List.map_cons]
    simp only [totL, List.length_cons]
    show (itoaB x).size + 1 + _ ≤ _
    omega
theorem print_size {m : Machine} (h : NumsM m) : (printB m).size ≤ 35 + 3 * (m.args.length + m.saved.length) := by
  obtain ⟨_, _, h3⟩ := back_shown (shown_m h)
  have e0 : wsM m ++ [eolW] = [nmW tMachine] ++ ([m.regs].map nuW ++ ([nmW tArgs] ++ (m.args.map nuW ++ ([nmW tRet] ++ ([m.ret].map nuW ++ ([nmW tSaved] ++ (m.saved.map nuW ++ [eolW]))))))) := by
    unfold wsM
    simp
  rw [e0] at h3
  simp only [totL_app] at h3
  have t1 : totL [nmW tMachine] = 8 := by decide
  have t2 : totL [nmW tArgs] = 5 := by decide
  have t3 : totL [nmW tRet] = 4 := by decide
  have t4 : totL [nmW tSaved] = 6 := by decide
  have t5 : totL [eolW] = 1 := by decide
  have t6 := totL_nums [m.regs] (by intro x hx; simp at hx; subst hx; exact h.r)
  have t7 := totL_nums [m.ret] (by intro x hx; simp at hx; subst hx; exact h.t)
  have t8 := totL_nums m.args h.a
  have t9 := totL_nums m.saved h.s
  simp only [List.length_cons, List.length_nil] at t6 t7
  omega

/-! ### cursors that differ in places alone -/
section
variable {a b : Cur}
theorem CurSim.ends (h : CurSim a b) : endsC a = endsC b := by
  unfold endsC
  rcases h.head with ⟨h1, h2⟩ | ⟨x, y, h1, h2, h3⟩
  · rw [h1, h2]
  · rw [h1, h2]; simp only [(core_parts h3).1]
theorem CurSim.peek (h : CurSim a b) : peekC a = peekC b := by
  unfold peekC
  rcases h.head with ⟨h1, h2⟩ | ⟨x, y, h1, h2, h3⟩
  · rw [h1, h2]
  · rw [h1, h2]; simp only [(core_parts h3).1, (core_parts h3).2.1]
theorem CurSim.goA (h : CurSim a b) : goA a = goA b := by unfold Proofs.YtcfimcghckjmeaaDoor.goA; rw [h.more, h.ends, h.peek]
theorem CurSim.key (h : CurSim a b) (t : ByteArray) : CurSim (keyK t a) (keyK t b) := by
  unfold keyK
  rw [h.is]
  split
  · exact h.pop
  · exact h.fail 7
theorem regsF_sim : ∀ (f : Nat) {a b : Cur}, CurSim a b → (regsF Proofs.YtcfimcghckjmeaaDoor.goA f a).1 = (regsF Proofs.YtcfimcghckjmeaaDoor.goA f b).1 ∧ CurSim (regsF Proofs.YtcfimcghckjmeaaDoor.goA f a).2 (regsF Proofs.YtcfimcghckjmeaaDoor.goA f b).2
  | 0, _, _, h => ⟨rfl, h⟩
  | f + 1, a, b, h => by
    show (Prod.fst (if _ then _ else _)) = (Prod.fst (if _ then _ else _)) ∧ CurSim (Prod.snd (if _ then _ else _)) (Prod.snd (if _ then _ else _))
    rw [h.goA]
    obtain ⟨h1, h2⟩ := h.num 0 64
    obtain ⟨h3, h4⟩ := regsF_sim f h2
    split
    · exact ⟨by rw [h1, h3], h4⟩
    · exact ⟨rfl, h⟩
theorem CurSim.fuel (h : CurSim a b) : fuelC a = fuelC b := by
  unfold fuelC
  rw [h.2]
  have := congrArg List.length h.1
  rw [List.length_map, List.length_map] at this
  rw [this]
theorem CurSim.regs (h : CurSim a b) : (regsC Proofs.YtcfimcghckjmeaaDoor.goA a).1 = (regsC Proofs.YtcfimcghckjmeaaDoor.goA b).1 ∧ CurSim (regsC Proofs.YtcfimcghckjmeaaDoor.goA a).2 (regsC Proofs.YtcfimcghckjmeaaDoor.goA b).2 := by
  unfold regsC
  rw [h.fuel]
  exact regsF_sim _ h
theorem CurSim.read (h : CurSim a b) : (readM Proofs.YtcfimcghckjmeaaDoor.goA a).1 = (readM Proofs.YtcfimcghckjmeaaDoor.goA b).1 ∧ CurSim (readM Proofs.YtcfimcghckjmeaaDoor.goA a).2 (readM Proofs.YtcfimcghckjmeaaDoor.goA b).2 := by
  unfold readM
  simp only
  obtain ⟨h1, k1⟩ := (h.key tMachine).num 0 64
  obtain ⟨h2, k2⟩ := (k1.key tArgs).regs
  obtain ⟨h3, k3⟩ := (k2.key tRet).num 0 64
  obtain ⟨h4, k4⟩ := (k3.key tSaved).regs
  exact ⟨by rw [h1, h2, h3, h4], k4⟩
end

/-! ### a machine's words are read -/
abbrev C0 (l : List Word) : Cur := ⟨l, 0, 0, 0⟩
theorem head_C0 (x : Word) (l : List Word) : headC (C0 (x :: l)) = some x := rfl
theorem key_hit (t : ByteArray) (l : List Word) : keyK t (C0 (nmW t :: l)) = C0 l := by
  have : isC (.nm t) (C0 (nmW t :: l)) = true := by
    unfold isC
    rw [head_C0]
    show (t.toList == t.toList) = true
    simp
  unfold keyK
  rw [if_pos this]
  rfl
theorem num_hit {n : Int} (h0 : 0 ≤ n) (h1 : n ≤ 64) (l : List Word) : numC 0 64 (C0 (nuW n :: l)) = (n, C0 l) := by
  unfold numC
  rw [head_C0]
  show (if (2 : Int) = 2 then (if n < 0 ∨ 64 < n then _ else (n, popC _)) else _) = _
  rw [if_pos rfl, if_neg (by omega)]
  rfl
theorem go_nu (n : Int) (l : List Word) : goA (C0 (nuW n :: l)) = true := by
  show (true && (!false && ByteArray.empty.toList == [])) = true
  rw [ByteArray.toList_eq]; rfl
theorem go_nil : goA (C0 []) = false := rfl
theorem go_nm {t : ByteArray} (ht : t.toList ≠ []) (l : List Word) : goA (C0 (nmW t :: l)) = false := by
  show (true && (!false && t.toList == [])) = false
  simp [ht]
theorem regs_hit : ∀ (xs : List Int) (l : List Word), (∀ x ∈ xs, 0 ≤ x ∧ x ≤ 64) → goA (C0 l) = false → regsC goA (C0 (xs.map nuW ++ l)) = (xs, C0 l)
  | [], l, _, hl => regsC_no hl
  | x :: xs, l, h, hl => by
    have hx := h x (by simp)
    show regsC goA (C0 (nuW x :: (xs.map nuW ++ l))) = _
    rw [regsC_go goA_ok (go_nu x _), num_hit hx.1 hx.2]
    simp only
    rw [regs_hit xs l (fun y hy => h y (List.mem_cons_of_mem _ hy)) hl]
theorem read_words {m : Machine} (h : NumsM m) : readM goA (C0 (wsM m)) = (m, C0 []) := by
  have e1 : keyK tMachine (C0 (wsM m)) = C0 (nuW m.regs :: nmW tArgs :: (m.args.map nuW ++ (nmW tRet :: nuW m.ret :: nmW tSaved :: m.saved.map nuW))) := key_hit _ _
  have e4 := regs_hit m.saved [] h.s go_nil
  rw [List.append_nil] at e4
  unfold readM
  simp only [e1, num_hit h.r.1 h.r.2, key_hit, regs_hit m.args _ h.a (go_nm (t := tRet) (by rw [ByteArray.toList_eq]; decide) _), num_hit h.t.1 h.t.2, e4]

/-! ### the words of a text that is printed -/
theorem compK_last_end : ∀ (xs : List Word) (y : Word), (∀ x ∈ xs, endW x = false) → compK false (xs ++ [y]) = xs ++ [y]
  | [], y, _ => by rw [List.nil_append, compK_cons, if_neg (by simp)]; rfl
  | x :: xs, y, h => by
    have hx := h x (by simp)
    rw [List.cons_append, compK_cons, if_neg (by simp), hx, compK_last_end xs y fun z hz => h z (List.mem_cons_of_mem _ hz)]
theorem compK_head_end (x : Word) (xs : List Word) (y : Word) (hx : endW x = false) (h : ∀ x ∈ xs, endW x = false) : compK true (x :: (xs ++ [y])) = x :: (xs ++ [y]) := by
  rw [compK_cons, if_neg (by simp [hx]), hx, compK_last_end xs y h]
theorem compK_core : ∀ (a b : List Word) (c : Bool), a.map core = b.map core → (compK c a).map core = (compK c b).map core ∧ lastE c a = lastE c b
  | [], [], _, _ => ⟨rfl, rfl⟩
  | [], _ :: _, _, h => by cases h
  | _ :: _, [], _, h => by cases h
  | x :: a, y :: b, c, h => by
    rw [List.map_cons, List.map_cons] at h
    injection h with h1 h2
    have he := core_end h1
    obtain ⟨i1, i2⟩ := compK_core a b (endW y) h2
    refine ⟨?_, ?_⟩
    · rw [compK_cons, compK_cons, he]
      by_cases hc : c = true ∧ endW y = true
      · rw [if_pos hc, if_pos hc]
        exact (compK_core a b true h2).1
      · rw [if_neg hc, if_neg hc, List.map_cons, List.map_cons, h1, i1]
    · show lastE (endW x) a = lastE (endW y) b
      rw [he]
      exact i2
theorem end_nm (t : ByteArray) : endW (nmW t) = false := rfl
theorem end_nu (n : Int) : endW (nuW n) = false := rfl
theorem over_print {m : Machine} (h : NumsM m) : CurSim (overT (printB m)) (C0 (wsM m)) := by
  obtain ⟨h1, h2, _⟩ := back_shown (shown_m h)
  have hs : SimR (readR (printB m)) ⟨wsM m ++ [eolW], 0, 0, 0⟩ := ⟨h1, fun _ => compK_core _ _ true h2⟩
  have hv := over_sim _ _ hs
  have hne : ∀ x ∈ (wsM m).tail, endW x = false := by
    intro x hx
    unfold wsM at hx
    simp only [List.tail_cons, List.mem_cons, List.mem_append, List.mem_map] at hx
    rcases hx with rfl | rfl | ⟨y, _, rfl⟩ | rfl | rfl | rfl | ⟨y, _, rfl⟩ <;> rfl
  have hc : compK true (wsM m ++ [eolW]) = wsM m ++ [eolW] := by
    have hsplit : wsM m = nmW tMachine :: (wsM m).tail := rfl
    rw [hsplit, List.cons_append]
    exact compK_head_end _ _ _ rfl hne
  have hd : dropEnd (wsM m ++ [eolW]) = wsM m := by
    unfold dropEnd
    rw [List.getLast?_append]
    show (if endW eolW = true then _ else _) = _
    rw [if_pos (show endW eolW = true from rfl)]
    simp
  simp only at hv
  rw [hc, hd] at hv
  rw [if_neg (show ¬ ((0 : Int) ≠ 0) by simp)] at hv
  exact hv
theorem parse_print {m : Machine} (h : rightM m = true) : parseT goA (printB m) = (m, 0) := by
  have hn := rightM_nums h
  obtain ⟨a1, a2, a3, a4, _⟩ := rightM_all h
  have hsz := print_size hn
  have hsim := (over_print hn).read
  rw [read_words hn] at hsim
  unfold parseT
  rw [if_neg (by omega), hsim.1, hsim.2.err]
  show endM m 0 = (m, 0)
  unfold endM
  rw [if_neg (by simp), if_pos h]
end Go.Proofs.YtcfimcghckjmeaaDoor
set_option linter.unusedSimpArgs false
set_option linter.unusedVariables false
namespace Go.Proofs.YtcfimcghckjmeaaDoor
open Go.RowKit

theorem itoa_sz (n : Int) (h : InI n) : (itoaB n).size ≤ 21 := by
  have := Lib.itoa_length_le n h.1 h.2
  unfold itoaB
  show (Lib.itoa n).toArray.size ≤ 21
  simpa using this
theorem rowB_sz : ∀ (xs : List Int) (b : ByteArray), (∀ x ∈ xs, InI x) → (rowB b xs).size ≤ b.size + 22 * xs.length
  | [], b, _ => Nat.le_refl _
  | x :: xs, b, h => by
    have h1 := rowB_sz xs (b ++ (⟨#[32]⟩ ++ itoaB x)) fun y hy => h y (List.mem_cons_of_mem _ hy)
    have h2 := itoa_sz x (h x (by simp))
    have h3 : (⟨#[32]⟩ : ByteArray).size = 1 := rfl
    simp only [ByteArray.size_append, h3] at h1
    show (rowB (b ++ _) xs).size ≤ _
    simp only [List.length_cons]
    omega
theorem Sl.ints_in {w : World} {S : Nat → Prop} {A : Option Addr} {n c : Nat} {xs : List Int} (h : Sl w S A n c xs) : ∀ x ∈ xs, InI x := fun x hx => by
  obtain ⟨k, hk, rfl⟩ := List.getElem_of_mem hx
  obtain ⟨b, off, y, us, _, _, _, hy, hus, _⟩ := h.at_ (k := k) (by rw [← h.len]; exact hk)
  rw [List.getElem?_eq_getElem hk] at hy
  rw [Option.some.inj hy]
  exact hus.2
set_option maxRecDepth 100000 in
set_option maxHeartbeats 8000000 in
theorem row5_any (t : ByteArray) (w : World) (S : Nat → Prop) (A : Option Addr) (n c : Nat) (xs : List Int) (h : Sl w S A n c xs) (hv : VarsP w) (ht : t.size ≤ 1048576) (hn1 : n ≤ 1048576) :
    Calls Tryd.prog 18 #[.string t, .slice A n c] w (RetX (.string (rowB t xs)) w) := by
  have hn := h.nle
  have HS := hide h; have HV := hide hv; have HIN := hide h.ints_in
  have HL := hide h.len
  obtain ⟨R0, hR0⟩ : ∃ R0, rowB t xs = R0 := ⟨_, rfl⟩
  rw [hR0]
  have HR0 := hide hR0
  clear h hv hR0
  go_enter Tryd.func18, Tryd.ntmps18
  go_wp2_with fail
  go_loopw [0, 9] (fun a b wr => ∃ (k : Nat) (acc : ByteArray) (u : Ext), a = .string acc ∧ b = .int .i64 k ∧ k ≤ n ∧ rowB acc (xs.drop k) = R0 ∧ acc.size ≤ t.size + 22 * k ∧ wr = w.ext u) (fun _ b _ => n - (intOf b).toNat)
  case atStart => exact ⟨0, t, _, rfl, rfl, Nat.zero_le _, HR0.out, by omega, (ext_refl w).choose_spec⟩
  case round =>
    obtain ⟨k, acc, u, rfl, rfl, hk, hr, hsz, rfl⟩ := hrel
    have HR := hide hr
    clear hr
    by_cases hlt : k < n
    · obtain ⟨b, off, x, rfl, hb, hx, hxi, hc⟩ := at_int (HS.out.ext u) hlt
      have HX := hide (drop_at hx)
      have HIT := hide (itoaP_any x hxi (w.ext u) (HV.out.ext u))
      have hz := itoa_sz x hxi
      obtain ⟨tx, htx⟩ : ∃ tx, itoaB x = tx := ⟨_, rfl⟩
      rw [htx] at HIT hz
      have HTX := hide htx
      have h32 : (⟨#[32]⟩ : ByteArray).size = 1 := rfl
      have g1 : (⟨#[32]⟩ : ByteArray).size + tx.size ≤ 9223372036854775807 := by omega
      have g2 : acc.size + (⟨#[32]⟩ ++ tx).size ≤ 9223372036854775807 := by rw [ByteArray.size_append, h32]; omega
      have HZ := hide (show (acc ++ (⟨#[32]⟩ ++ tx)).size ≤ t.size + 22 * (k + 1) by rw [ByteArray.size_append, ByteArray.size_append, h32]; omega)
      clear hx hz htx h32
      go_wp2_with (first | (go_at_call 29; refine HIT.out.mono ?_; rintro e _ ⟨rfl, u1, rfl⟩) | (simp only [run_string_add_sum _ _ _ g1, run_string_add_sum _ _ _ g2]))
      go_roundw
      case rel =>
        obtain ⟨v, hv⟩ := ext_ext w u u1
        exact ⟨k + 1, _, v, rfl, by go_num, by omega, by have := HR.out; rw [HX.out] at this; rw [← HTX.out]; exact this, HZ.out, hv⟩
      case measure => simp [intOf]; omega
    · go_wp2_with fail
      go_ret
      refine ⟨?_, u, rfl⟩
      have := HR.out
      rw [drop_end HL.out hlt] at this
      rw [← this]
      rfl
def joinB4 (a b c d : ByteArray) : ByteArray := a ++ (⟨#[32]⟩ ++ b) ++ (⟨#[32]⟩ ++ c) ++ (⟨#[32]⟩ ++ d)
theorem join4 (a b c d : ByteArray) : (⟨(Lib.join ([a, b, c, d].map (·.data.toList)) (⟨#[32]⟩ : ByteArray).data.toList).toArray⟩ : ByteArray) = joinB4 a b c d := by
  apply bytes_ext
  simp only [List.map_cons, List.map_nil, Lib.join_cons, Lib.joinTail, joinB4]
  simp
theorem join4_any (w : World) {S : Nat → Prop} {ad : Addr} (a b c d : ByteArray) (h : Sl w S (some ad) 4 4 [a, b, c, d]) (hs : (joinB4 a b c d).size ≤ 140737488355328) :
    Calls Tryd.prog 17 #[.slice (some ad) 4 4, .string ⟨#[32]⟩] w (RetX (.string (joinB4 a b c d)) w) := by
  obtain ⟨bk, o, e, hb, _, hx⟩ := h.2.2.2.2 (by omega)
  injection e with e
  subst e
  have hj := join4 a b c d
  have := Tryd.strings_Join bk o 4 [a, b, c, d] ⟨#[32]⟩ w (fun j x hj => by
    obtain ⟨us, hus, hc⟩ := hx j x hj
    obtain ⟨rfl, _⟩ := hus
    have := hc 0 _ rfl
    simpa [Rep.size] using this) hb (by simp) (by simp) (by
    have h1 := congrArg ByteArray.size hj
    rw [show (ByteArray.mk (Lib.join ([a, b, c, d].map (·.data.toList)) (⟨#[32]⟩ : ByteArray).data.toList).toArray).size = (Lib.join ([a, b, c, d].map (·.data.toList)) (⟨#[32]⟩ : ByteArray).data.toList).length from by show Array.size _ = _; simp] at h1
    omega)
  rw [hj] at this
  exact this.mono fun e w' ⟨he, hb⟩ => ⟨he, hb.to_ext⟩
def printT (m : Machine) : ByteArray × Int := if rightM m = true then (printB m, 0) else (⟨#[]⟩, 2)
theorem printB_join (m : Machine) : printB m = joinB4 (rowB tMachine [m.regs]) (rowB tArgs m.args) (rowB tRet [m.ret]) (rowB tSaved m.saved) ++ ⟨#[10]⟩ := rfl
set_option maxRecDepth 100000 in
set_option maxHeartbeats 8000000 in
theorem print5_any (w : World) (S1 S2 : Nat → Prop) (m : Machine) (A1 A2 : Option Addr) (n1 c1 n2 c2 : Nat) (h1 : Sl w S1 A1 n1 c1 m.args) (h2 : Sl w S2 A2 n2 c2 m.saved) (hi : InI m.ret) (hv : VarsP w) :
    Calls Tryd.prog 8 #[.agg #[.int .i64 m.regs, .slice A1 n1 c1, .int .i64 m.ret, .slice A2 n2 c2]] w (RetX (.tuple #[.string (printT m).1, .int .i64 (printT m).2]) w) := by
  obtain ⟨W0, hW0⟩ : ∃ W0, w.alloc (.cells #[.int .i64 m.regs, .slice A1 n1 c1, .int .i64 m.ret, .slice A2 n2 c2] 24) = W0 := ⟨_, rfl⟩
  obtain ⟨g, hg⟩ : ∃ g, w.heap.size = g := ⟨_, rfl⟩
  have hrow : W0.heap[g]? = some (.cells #[.int .i64 m.regs, .slice A1 n1 c1, .int .i64 m.ret, .slice A2 n2 c2] 24 (0, 0)) := by rw [← hW0, ← hg]; exact heap_alloc_new w _
  have k0 : W0.cell? ⟨g, 0, none⟩ = some (.int .i64 m.regs) := cell_of_row W0 g _ _ _ (0, 0) hrow
  have k1 : W0.cell? ⟨g, 1, none⟩ = some (.slice A1 n1 c1) := cell_of_row W0 g _ _ _ (0, 0) hrow
  have k2 : W0.cell? ⟨g, 2, none⟩ = some (.int .i64 m.ret) := cell_of_row W0 g _ _ _ (0, 0) hrow
  have k3 : W0.cell? ⟨g, 3, none⟩ = some (.slice A2 n2 c2) := cell_of_row W0 g _ _ _ (0, 0) hrow
  have hgl : g < W0.heap.size := by rw [← hW0, ← hg]; simp
  have HB0 := hide (show Below w.heap.size w W0 by rw [← hW0]; exact (Below.refl _ _).alloc (Nat.le_refl _) _)
  have hw0 : w.heap.size ≤ W0.heap.size := HB0.out.size
  have H1 := hide (show Sl W0 S1 A1 n1 c1 m.args by rw [← hW0]; exact h1.alloc _)
  have H2 := hide (show Sl W0 S2 A2 n2 c2 m.saved by rw [← hW0]; exact h2.alloc _)
  have HV := hide (show VarsP W0 by rw [← hW0]; exact hv.alloc _)
  have HR := hide (rightm_any W0 S1 S2 m A1 A2 n1 c1 n2 c2 H1.out H2.out hi)
  have HI := hide hi
  clear hrow h1 h2 hv hi
  cases hr : rightM m with
  | false =>
    have HG := hide (show printT m = (⟨#[]⟩, 2) by unfold printT; rw [hr]; rfl)
    rw [hr] at HR
    rw [HG.out]
    clear hr
    go_enter Tryd.func8, Tryd.ntmps8
    go_wp2_with (go_at_call 7; refine HR.out.mono ?_; rintro e _ ⟨rfl, u0, rfl⟩)
    go_ret2
    exact ⟨rfl, (HB0.out.ext hw0 u0).to_ext⟩
  | true =>
    have HG := hide (show printT m = (printB m, 0) by unfold printT; rw [hr]; rfl)
    have HNM := hide (rightM_nums hr)
    have HAL := hide (rightM_all hr)
    rw [hr] at HR
    rw [HG.out, printB_join]
    clear hr
    have HRG := hide (show InI m.regs by have := HNM.out.r; unfold InI; omega)
    obtain ⟨ra, hra⟩ : ∃ ra, rowB tMachine [m.regs] = ra := ⟨_, rfl⟩
    obtain ⟨rb, hrb⟩ : ∃ rb, rowB tArgs m.args = rb := ⟨_, rfl⟩
    obtain ⟨rc, hrc⟩ : ∃ rc, rowB tRet [m.ret] = rc := ⟨_, rfl⟩
    obtain ⟨rd, hrd⟩ : ∃ rd, rowB tSaved m.saved = rd := ⟨_, rfl⟩
    have za : ra.size ≤ 4096 := by rw [← hra]; have := rowB_sz [m.regs] tMachine (by intro x hx; simp at hx; rw [hx]; exact HRG.out); simp only [List.length_cons, List.length_nil] at this; have e : tMachine.size = 7 := rfl; omega
    have zb : rb.size ≤ 4096 := by rw [← hrb]; have := rowB_sz m.args tArgs H1.out.ints_in; have := HAL.out.2.2.1; have e : tArgs.size = 4 := rfl; omega
    have zc : rc.size ≤ 4096 := by rw [← hrc]; have := rowB_sz [m.ret] tRet (by intro x hx; simp at hx; rw [hx]; exact HI.out); simp only [List.length_cons, List.length_nil] at this; have e : tRet.size = 3 := rfl; omega
    have zd : rd.size ≤ 4096 := by rw [← hrd]; have := rowB_sz m.saved tSaved H2.out.ints_in; have := HAL.out.2.1; have := HAL.out.2.2.2.1; have e : tSaved.size = 5 := rfl; omega
    have hn1 : n1 ≤ 1048576 := by have := H1.out.len; have := HAL.out.2.2.1; omega
    have hn2 : n2 ≤ 1048576 := by have := H2.out.len; have := HAL.out.2.1; have := HAL.out.2.2.2.1; omega
    have HCa := hide (fun (W : World) (S : Nat → Prop) (b : Addr) (h : Sl W S (some b) 1 1 [m.regs]) (hv : VarsP W) => show Calls Tryd.prog 18 #[.string ⟨#[109, 97, 99, 104, 105, 110, 101]⟩, .slice (some b) 1 1] W (RetX (.string ra) W) from hra ▸ row5_any tMachine W S (some b) 1 1 [m.regs] h hv (by decide) (by decide))
    have HCb := hide (fun (W : World) (h : Sl W S1 A1 n1 c1 m.args) (hv : VarsP W) => show Calls Tryd.prog 18 #[.string ⟨#[97, 114, 103, 115]⟩, .slice A1 n1 c1] W (RetX (.string rb) W) from hrb ▸ row5_any tArgs W S1 A1 n1 c1 m.args h hv (by decide) hn1)
    have HCc := hide (fun (W : World) (S : Nat → Prop) (b : Addr) (h : Sl W S (some b) 1 1 [m.ret]) (hv : VarsP W) => show Calls Tryd.prog 18 #[.string ⟨#[114, 101, 116]⟩, .slice (some b) 1 1] W (RetX (.string rc) W) from hrc ▸ row5_any tRet W S (some b) 1 1 [m.ret] h hv (by decide) (by decide))
    have HCd := hide (fun (W : World) (h : Sl W S2 A2 n2 c2 m.saved) (hv : VarsP W) => show Calls Tryd.prog 18 #[.string ⟨#[115, 97, 118, 101, 100]⟩, .slice A2 n2 c2] W (RetX (.string rd) W) from hrd ▸ row5_any tSaved W S2 A2 n2 c2 m.saved h hv (by decide) hn2)
    have hzj : (joinB4 ra rb rc rd).size ≤ 16387 := by
      unfold joinB4
      have h3 : (⟨#[32]⟩ : ByteArray).size = 1 := rfl
      simp only [ByteArray.size_append, h3]
      omega
    have HCj := hide (fun (W : World) (S : Nat → Prop) (b : Addr) (h : Sl W S (some b) 4 4 [ra, rb, rc, rd]) => join4_any W ra rb rc rd h (by omega))
    obtain ⟨J, hJ⟩ : ∃ J, joinB4 ra rb rc rd = J := ⟨_, rfl⟩
    rw [hJ] at HCj hzj
    rw [hra, hrb, hrc, hrd, hJ]
    have g1 : J.size + (⟨#[10]⟩ : ByteArray).size ≤ 9223372036854775807 := by show J.size + 1 ≤ _; omega
    clear hra hrb hrc hrd hJ
    go_enter Tryd.func8, Tryd.ntmps8
    go_wp2_with (go_at_call 7; refine HR.out.mono ?_; rintro e _ ⟨rfl, u0, rfl⟩)
    obtain ⟨W, hW⟩ : ∃ W, W0.ext u0 = W := ⟨_, rfl⟩
    have H1W := hide (show Sl W S1 A1 n1 c1 m.args by rw [← hW]; exact H1.out.ext _)
    have H2W := hide (show Sl W S2 A2 n2 c2 m.saved by rw [← hW]; exact H2.out.ext _)
    have HVW := hide (show VarsP W by rw [← hW]; exact HV.out.ext _)
    have HBW := hide (show Below w.heap.size w W by rw [← hW]; exact HB0.out.ext hw0 _)
    have j0 : W.cell? ⟨g, 0, none⟩ = some (.int .i64 m.regs) := by rw [← hW]; exact (cell?_ext W0 u0 _ hgl).trans k0
    have j1 : W.cell? ⟨g, 1, none⟩ = some (.slice A1 n1 c1) := by rw [← hW]; exact (cell?_ext W0 u0 _ hgl).trans k1
    have j2 : W.cell? ⟨g, 2, none⟩ = some (.int .i64 m.ret) := by rw [← hW]; exact (cell?_ext W0 u0 _ hgl).trans k2
    have j3 : W.cell? ⟨g, 3, none⟩ = some (.slice A2 n2 c2) := by rw [← hW]; exact (cell?_ext W0 u0 _ hgl).trans k3
    have hglW : g < W.heap.size := by rw [← hW, size_ext]; omega
    have hwW : w.heap.size ≤ W.heap.size := HBW.out.size
    rw [hW]
    clear hW hW0 hg k0 k1 k2 k3 hgl HB0 hw0 H1 H2 HV HR HAL HNM HG
    refine wp_region_flow_ext [] [2, 9, 14] (by kernel_rfl) rfl (by kernel_rfl) ?_
    repeat (refine flow_known (by kernel_rfl) (fun K hK => ?_); go_simp; (first | (refine hK _ ?_; clear hK K) | (apply Exists.intro; refine ⟨fun _ => ?_, hK _ ?_⟩; (fail); clear hK K)))
    refine flow_keep0 (FullP 1 [m.regs]) (by kernel_rfl) (FullP.stable_ rfl) ?_ ?_
    · intro u
      go_simp
      exact ⟨FullP.lit (w := W.ext u) (S := fun _ => False) (us := #[.int .i64 m.regs]) rfl (by simp [size_ext]) (RepL.ints [m.regs] (by intro x hx; simp at hx; rw [hx]; exact HRG.out)) rfl (by decide), onW_alloc rfl ⟨u, rfl⟩⟩
    refine flow_out [true] (.string ra) (by kernel_rfl) ?_ ?_
    · intro u
      try simp only [List.nil_append, List.cons_append, useH_f, useH_t, useH_nil]
      rintro _ ⟨S, b, rfl, hs⟩
      go_simp
      exact HCa.out _ _ _ hs (HVW.out.ext u)
    repeat (refine flow_known (by kernel_rfl) (fun K hK => ?_); go_simp; (first | (refine hK _ ?_; clear hK K) | (apply Exists.intro; refine ⟨fun _ => ?_, hK _ ?_⟩; ((go_at_call 18; exact HCb.out _ (H1W.out.ext _) (HVW.out.ext _))); clear hK K)))
    refine flow_keep0 (FullP 1 [m.ret]) (by kernel_rfl) (FullP.stable_ rfl) ?_ ?_
    · intro u
      go_simp
      exact ⟨FullP.lit (w := W.ext u) (S := fun _ => False) (us := #[.int .i64 m.ret]) rfl (by simp [size_ext]) (RepL.ints [m.ret] (by intro x hx; simp at hx; rw [hx]; exact HI.out)) rfl (by decide), onW_alloc rfl ⟨u, rfl⟩⟩
    refine flow_out [false, true] (.string rc) (by kernel_rfl) ?_ ?_
    · intro u
      try simp only [List.nil_append, List.cons_append, useH_f, useH_t, useH_nil]
      rintro _ ⟨S, b, rfl, hs⟩
      go_simp
      exact HCc.out _ _ _ hs (HVW.out.ext u)
    repeat (refine flow_known (by kernel_rfl) (fun K hK => ?_); go_simp; (first | (refine hK _ ?_; clear hK K) | (apply Exists.intro; refine ⟨fun _ => ?_, hK _ ?_⟩; ((go_at_call 18; exact HCd.out _ (H2W.out.ext _) (HVW.out.ext _))); clear hK K)))
    refine flow_keep0 (FullP 4 [ra, rb, rc, rd]) (by kernel_rfl) (FullP.stable_ rfl) ?_ ?_
    · intro u
      go_simp
      exact ⟨FullP.lit (w := W.ext u) (S := fun _ => False) (us := #[.string ra, .string rb, .string rc, .string rd]) rfl (by simp [size_ext]) ⟨[.string ra], _, rfl, ⟨rfl, by unfold maxLen; omega⟩, [.string rb], _, rfl, ⟨rfl, by unfold maxLen; omega⟩, [.string rc], _, rfl, ⟨rfl, by unfold maxLen; omega⟩, [.string rd], _, rfl, ⟨rfl, by unfold maxLen; omega⟩, rfl⟩ rfl (by decide), onW_alloc rfl ⟨u, rfl⟩⟩
    refine flow_out [false, false, true] (.string J) (by kernel_rfl) ?_ ?_
    · intro u
      try simp only [List.nil_append, List.cons_append, useH_f, useH_t, useH_nil]
      rintro _ ⟨S, b, rfl, hs⟩
      go_simp
      exact HCj.out _ _ _ hs
    refine flow_out [false, false, false] (.string (J ++ ⟨#[10]⟩)) (by kernel_rfl) ?_ ?_
    · intro u
      try simp only [List.nil_append, List.cons_append, useH_f, useH_t, useH_nil]
      go_simp
      rw [if_neg (by omega)]
      exact ⟨rfl, rfl⟩
    repeat (refine flow_known (by kernel_rfl) (fun K hK => ?_); go_simp; (first | (refine hK _ ?_; clear hK K) | (apply Exists.intro; refine ⟨fun _ => ?_, hK _ ?_⟩; (fail); clear hK K)))
    refine flow_done [true, true, true] (by kernel_rfl) ?_
    intro ux
    simp only [List.nil_append, List.cons_append, endH_f, endH_t, endH_nil]
    rintro v1 _ v2 _ v3 _
    go_simp
    go_wp2_with fail
    go_ret2
    exact ⟨rfl, (HBW.out.ext hwW ux).to_ext⟩
end Go.Proofs.YtcfimcghckjmeaaDoor
