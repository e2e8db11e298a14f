/- law04: plain: the document's lines are the lines of words. law04: plain: the ends in a text of lines; where its last line begins. -/
import Derived.Test.YtljglhaeonbfoaaGreatDoorG19
set_option linter.unusedSimpArgs false
set_option linter.unusedVariables false
namespace Go.Proofs.YtljglhaeonbfoaaGreatDoor
def docVar (v : Int) : ByteArray := ⟨#[118]⟩ ++ itoaB v
theorem docVar_vr {v : Int} (h : vOk v = true) : docVar v = (vrW v).text := by
 obtain ⟨h1, h2⟩ := vOk_in h
 apply bytes_ext
 rw [← ByteArray.toList_eq, show (vrW v).text = keyB 118 v.toNat from rfl, ← ByteArray.toList_eq, key_list]
 unfold docVar itoaB Lib.itoa
 rw [if_neg (by omega), ByteArray.toList_eq, ByteArray.data_append, Array.toList_append]
 simp
end Go.Proofs.YtljglhaeonbfoaaGreatDoor
namespace Go.Proofs.YtljglhaeonbfoaaGreatDoor
def tens (l : List UInt8) : Nat := l.countP (· == 10)
theorem tens_app (a b : List UInt8) : tens (a ++ b) = tens a + tens b := by unfold tens; rw [List.countP_append]
theorem tens_none {l : List UInt8} (h : ∀ b ∈ l, b ≠ 10) : tens l = 0 := by
 unfold tens
 rw [List.countP_eq_zero]
 intro b hb
 simp [h b hb]
theorem tailX_ten : ∀ l : List Word, (∀ p ∈ l, cleanB p.text) → ∀ b ∈ (tailX (l.map (·.text))).data.toList, b ≠ 10
 | [], _ => fun _ h => by cases h
 | p :: l, h => by
  have ih := tailX_ten l fun q hq => h q (List.mem_cons_of_mem _ hq)
  intro b hb
  rw [show tailX ((p :: l).map (·.text)) = (⟨#[32]⟩ ++ p.text) ++ tailX (l.map (·.text)) from rfl, ByteArray.data_append, ByteArray.data_append, Array.toList_append, Array.toList_append] at hb
  rcases List.mem_append.1 hb with hb | hb
  ·rcases List.mem_append.1 hb with hb | hb
   ·obtain rfl := List.mem_singleton.1 hb; decide
   ·exact (h p (by simp) b hb).1
  ·exact ih b hb
theorem joinX_ten {l : List Word} (h : ∀ p ∈ l, cleanB p.text) : ∀ b ∈ (joinX (l.map (·.text))).data.toList, b ≠ 10 := by
 cases l with
 | nil => exact fun _ h => by cases h
 | cons p l =>
  intro b hb
  rw [show joinX ((p :: l).map (·.text)) = p.text ++ tailX (l.map (·.text)) from rfl, ByteArray.data_append, Array.toList_append] at hb
  rcases List.mem_append.1 hb with hb | hb
  ·exact (h p (by simp) b hb).1
  ·exact tailX_ten l (fun q hq => h q (List.mem_cons_of_mem _ hq)) b hb
theorem lineX_list (ps : List Word) : (lineX ps).data.toList = (joinX (ps.map (·.text))).data.toList ++ [10] := by
 unfold lineX; rw [ByteArray.data_append, Array.toList_append]
theorem tens_line {ps : List Word} (h : ∀ p ∈ ps, cleanB p.text) : tens (lineX ps).data.toList = 1 := by
 rw [lineX_list, tens_app, tens_none (joinX_ten h)]; rfl
theorem tens_lines : ∀ (L : List (List Word)) (acc : ByteArray), (∀ ps ∈ L, ∀ p ∈ ps, cleanB p.text) → tens (linesX acc L).data.toList = tens acc.data.toList + L.length
 | [], acc, _ => rfl
 | ps :: L, acc, h => by
  show tens (linesX (acc ++ lineX ps) L).data.toList = _
  rw [tens_lines L _ fun q hq => h q (List.mem_cons_of_mem _ hq), ByteArray.data_append, Array.toList_append, tens_app, tens_line (h ps (by simp)), List.length_cons]
  omega
theorem tens_show04 {f : Fnc} (h : FncR f) : tens (show04 f).data.toList = (fnWs f).length := by
 have := tens_lines (fnWs f) ByteArray.empty fun ps hp => (all_fn pw_clean h ps hp).2
 unfold show04
 rw [this]
 show 0 + _ = _
 omega
def endL (l : List UInt8) : Nat → Nat
 | 0 => 0
 | k + 1 => if l[k]? = some 10 then k + 1 else endL l k
theorem endL_run {l : List UInt8} {a : Nat} (ha : a = 0 ∨ l[a - 1]? = some 10) : ∀ m : Nat, (∀ j, a ≤ j → j < a + m → l[j]? ≠ some 10) → endL l (a + m) = a
 | 0, _ => by
  cases a with
  | zero => rfl
  | succ a =>
   rcases ha with h | h
   ·omega
   ·exact if_pos h
 | m + 1, h => by
  show (if l[a + m]? = some 10 then a + m + 1 else endL l (a + m)) = a
  rw [if_neg (h (a + m) (by omega) (by omega))]
  exact endL_run ha m fun j h1 h2 => h j h1 (by omega)
def cutB (s : ByteArray) : ByteArray := mkB (s.data.toList.take (endL s.data.toList (s.size - 1)))
theorem cut_line {a : ByteArray} {q : List Word} (hq : ∀ p ∈ q, cleanB p.text) (ha : a.size = 0 ∨ a.data.toList[a.size - 1]? = some 10) : cutB (a ++ lineX q) = a := by
 have e : (a ++ lineX q).data.toList = a.data.toList ++ ((joinX (q.map (·.text))).data.toList ++ [10]) := by rw [ByteArray.data_append, Array.toList_append, lineX_list]
 have hz : (a ++ lineX q).size - 1 = a.size + (joinX (q.map (·.text))).data.toList.length := by
  rw [size_list, e]
  simp only [List.length_append, List.length_cons, List.length_nil]
  rw [← size_list]
  omega
 have hl : a.data.toList.length = a.size := (size_list a).symm
 have hend : endL (a ++ lineX q).data.toList ((a ++ lineX q).size - 1) = a.size := by
  rw [hz]
  refine endL_run ?_ _ fun j h1 h2 => ?_
  ·rcases ha with h | h
   ·exact .inl h
   ·right
    rw [e, List.getElem?_append_left (by rw [hl]; have := List.getElem?_eq_some_iff.1 h; obtain ⟨h3, _⟩ := this; omega)]
    exact h
  ·rw [e, List.getElem?_append_right (by omega), hl, List.getElem?_append_left (by omega)]
   intro h
   exact joinX_ten hq 10 (List.mem_of_getElem? h) rfl
 unfold cutB
 rw [hend, e, ← hl, List.take_left' rfl]
 apply bytes_ext
 rw [mkB_list]
theorem lines_end : ∀ (L : List (List Word)) (acc : ByteArray), (acc.size = 0 ∨ acc.data.toList[acc.size - 1]? = some 10) → ((linesX acc L).size = 0 ∨ (linesX acc L).data.toList[(linesX acc L).size - 1]? = some 10)
 | [], _, h => h
 | ps :: L, acc, h => by
  refine lines_end L (acc ++ lineX ps) (.inr ?_)
  have e : (acc ++ lineX ps).data.toList = (acc.data.toList ++ (joinX (ps.map (·.text))).data.toList) ++ [10] := by rw [ByteArray.data_append, Array.toList_append, lineX_list, List.append_assoc]
  rw [size_list, e]
  simp
theorem cut_lines {L : List (List Word)} {q : List Word} (hq : ∀ p ∈ q, cleanB p.text) : cutB (linesX ByteArray.empty (L ++ [q])) = linesX ByteArray.empty L := by
 rw [linesX_app]
 exact cut_line hq (lines_end L _ (.inl rfl))
end Go.Proofs.YtljglhaeonbfoaaGreatDoor
