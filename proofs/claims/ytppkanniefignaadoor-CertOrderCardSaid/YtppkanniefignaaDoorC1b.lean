/- law28: parts of a line, as they are written. -/
import Derived.Test.YtppkanniefignaaDoorC1
set_option linter.unusedSimpArgs false
set_option linter.unusedVariables false
namespace Go.Proofs.YtppkanniefignaaDoor
open Go.RowKit Go.Maps

inductive Pt where
  | str (s : ByteArray)
  | int (n : Int)
  | nm (x : Nm)
def ptV : Pt → Value
  | .str s => .iface 9 (.string s)
  | .int n => .iface 3 (.int .i64 n)
  | .nm x => nmV x
def PtIn : Pt → Prop
  | .str s => s.size ≤ 1048576
  | .int n => InI n
  | .nm x => NmIn x
def ptB : Pt → ByteArray
  | .str s => s
  | .int n => itoaB n
  | .nm (.var n) => if n < 0 then ⟨#[104]⟩ ++ itoaB (-1 - n) else ⟨#[118]⟩ ++ itoaB n
  | .nm (.loc l) => (if l.slot = true then ⟨#[115]⟩ else ⟨#[114]⟩) ++ itoaB l.n
theorem ptV_one (x : Pt) : (ptV x).oneCell' = true := by
  cases x with
  | str s => rfl
  | int n => rfl
  | nm x => cases x <;> rfl
instance : Rep Pt where
  size := 1
  is _ _ x vs := vs = [ptV x] ∧ PtIn x
  len h := by rw [h.1]; rfl
  keep h _ _ := h
  more h _ := h
  one h := by rw [h.1]; intro u hu; rw [List.mem_singleton.1 hu]; exact ptV_one _
theorem ptB_key {x : Nm} (h : NmOk x) : ptB (.nm x) = keyN x := by
  cases x with
  | var n =>
    unfold NmOk at h
    unfold ptB keyN
    simp only
    split
    · obtain ⟨k, hk⟩ : ∃ k : Nat, -1 - n = (k : Int) := ⟨(-1 - n).toNat, by omega⟩
      rw [hk, keyB_itoa]; rfl
    · obtain ⟨k, rfl⟩ : ∃ k : Nat, n = (k : Int) := ⟨n.toNat, by omega⟩
      rw [keyB_itoa]; rfl
  | loc l =>
    obtain ⟨s, n⟩ := l
    obtain ⟨h1, h2⟩ := h
    simp only at h1
    obtain ⟨k, rfl⟩ : ∃ k : Nat, n = (k : Int) := ⟨n.toNat, by omega⟩
    unfold ptB keyN
    cases s
    · simp only [Bool.false_eq_true, if_false]; rw [keyB_itoa]; rfl
    · simp only [if_true]; rw [keyB_itoa]; rfl
end Go.Proofs.YtppkanniefignaaDoor
