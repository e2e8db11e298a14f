/- law28: words as keys of a map, what they name as its elements. law28: parts of a line, as they are written. -/
import Derived.Test.YtppkanniefignaaGreatDoorB28
import Derived.Test.YtppkanniefignaaGreatDoorMp
import Derived.StringKeys
set_option linter.unusedSimpArgs false
set_option linter.unusedVariables false
namespace Go.Proofs.YtppkanniefignaaGreatDoor
open Go.RowKit Go.Maps

/-- Keys that are texts. -/
noncomputable def strK : KeyT Tryz.prog ByteArray where
  t := 9
  good s := s.size ≤ maxLen
  val := .string
  lit s := .string s.data.toList
  law := string_keyed Tryz.underlying9
  of s hs := WideMaps.keyOf_string_mk Tryz.underlying9 hs
  inv v l h := by obtain ⟨s, e1, e2, e3⟩ := WideMaps.string_of_keyOf Tryz.underlying9 h; exact ⟨s, e3, e1, e2⟩
  inj x y _ _ h := by
    have h : x.data.toList = y.data.toList := by injection h
    exact bytes_ext h
/-- What a word names, as a value of any type. -/
def nmV : Nm → Value
  | .var n => .iface 118 (.int .i64 n)
  | .loc l => .iface 40 (.agg #[.bool l.slot, .int .i64 l.n])
def nmV? : Option Nm → Value
  | none => .nilIface
  | some x => nmV x
def NmIn : Nm → Prop
  | .var n => InI n
  | .loc l => InI l.n
def nmR (v : Value) : Option (DataW Unit × List MemPlace) :=
  match v with
  | .nilIface => some (.nil, [])
  | .iface t (.int .i64 n) => if t = 118 ∧ -9223372036854775808 ≤ n ∧ n ≤ 9223372036854775807 then some (.lit (.int .i64 n), []) else none
  | .iface t (.agg ⟨[.bool s, .int .i64 n]⟩) => if t = 40 ∧ -9223372036854775808 ≤ n ∧ n ≤ 9223372036854775807 then some (.agg [.lit (.bool s), .lit (.int .i64 n)], []) else none
  | _ => none
theorem zeroAny_run (w : World) : (zeroValue 20).run Tryz.prog w = .ok .nilIface w := by kernel_rfl
noncomputable def nmE : ElT Tryz.prog (Option Nm) where
  e := 20
  R := nmR
  good x := match x with | none => True | some y => NmIn y
  val := nmV?
  dat x := match x with | none => .nil | some (.var n) => .lit (.int .i64 n) | some (.loc l) => .agg [.lit (.bool l.slot), .lit (.int .i64 l.n)]
  zero := none
  of y hy := by
    cases y with
    | none => rfl
    | some y =>
      cases y with
      | var n =>
        show nmR (.iface _ _) = _
        unfold nmR
        exact if_pos ⟨rfl, hy⟩
      | loc l =>
        show nmR (.iface _ _) = _
        unfold nmR
        exact if_pos ⟨rfl, hy⟩
  inv v z h := by
    unfold nmR at h
    split at h
    · cases h; exact ⟨none, trivial, rfl, rfl⟩
    · split at h
      · rename_i hc
        cases h
        obtain ⟨rfl, hn⟩ := hc
        exact ⟨some (.var _), hn, rfl, rfl⟩
      · cases h
    · split at h
      · rename_i hc
        cases h
        obtain ⟨rfl, hn⟩ := hc
        exact ⟨some (.loc ⟨_, _⟩), hn, rfl, rfl⟩
      · cases h
    · cases h
  inj x y h := by
    cases x with
    | none => cases y with
      | none => rfl
      | some y => cases y <;> cases h
    | some x =>
      cases y with
      | none => cases x <;> cases h
      | some y =>
        cases x with
        | var n => cases y with
          | var m => simp at h; rw [h]
          | loc l => cases h
        | loc l => cases y with
          | var m => cases h
          | loc m =>
            obtain ⟨s, n⟩ := l
            obtain ⟨s', n'⟩ := m
            simp at h
            rw [h.1, h.2]
  good0 := trivial
  zero_run := zeroAny_run
/-- The map of what words name, so far as p lets it. -/
def filW (p : Nm → Bool) (s : ByteArray) : Option (Option Nm) := match nameW s with
  | some x => if p x = true then some (some x) else none
  | none => none
theorem NmOk.in_ {x : Nm} (h : NmOk x) : NmIn x := by
  cases x with
  | var n => unfold NmOk at h; unfold NmIn InI; omega
  | loc l =>
    obtain ⟨h1, h2⟩ : 0 ≤ l.n ∧ l.n < _ := h
    show InI l.n
    unfold InI
    split at h2 <;> omega
theorem filW_put {p q : Nm → Bool} {x : Nm} (hx : NmOk x) (hq : ∀ y, q y = (p y || decide (y = x))) : upd (filW p) (keyN x) (some (some x)) = filW q := by
  funext s
  unfold upd
  by_cases h : s = keyN x
  · rw [if_pos h, h]
    unfold filW
    rw [nameW_key hx]
    simp [hq]
  · rw [if_neg h]
    unfold filW
    cases hn : nameW s with
    | none => rfl
    | some y =>
      have hne : y ≠ x := fun e => h (e ▸ (nameW_inv hn).1)
      simp [hq, hne]
theorem filW_none : filW (fun _ => false) = fun _ => none := by
  funext s
  unfold filW
  cases nameW s <;> rfl
theorem filW_all {p : Nm → Bool} (h : ∀ x, NmOk x → p x = true) (s : ByteArray) : filW p s = (nameW s).map some := by
  unfold filW
  cases hn : nameW s with
  | none => rfl
  | some x => simp [h x (nameW_inv hn).2]
abbrev NmMap (w : World) (b n : Nat) (f : ByteArray → Option (Option Nm)) : Prop := MapP strK nmE w b n f
end Go.Proofs.YtppkanniefignaaGreatDoor
set_option linter.unusedSimpArgs false
set_option linter.unusedVariables false
namespace Go.Proofs.YtppkanniefignaaGreatDoor
open Go.RowKit Go.Maps

inductive Pt where
  | str (s : ByteArray)
  | int (n : Int)
  | nm (x : Nm)
def ptV : Pt → Value
  | .str s => .iface 9 (.string s)
  | .int n => .iface 3 (.int .i64 n)
  | .nm x => nmV x
def PtIn : Pt → Prop
  | .str s => s.size ≤ 1048576
  | .int n => InI n
  | .nm x => NmIn x
def ptB : Pt → ByteArray
  | .str s => s
  | .int n => itoaB n
  | .nm (.var n) => if n < 0 then ⟨#[104]⟩ ++ itoaB (-1 - n) else ⟨#[118]⟩ ++ itoaB n
  | .nm (.loc l) => (if l.slot = true then ⟨#[115]⟩ else ⟨#[114]⟩) ++ itoaB l.n
theorem ptV_one (x : Pt) : (ptV x).oneCell' = true := by
  cases x with
  | str s => rfl
  | int n => rfl
  | nm x => cases x <;> rfl
instance : Rep Pt where
  size := 1
  is _ _ x vs := vs = [ptV x] ∧ PtIn x
  len h := by rw [h.1]; rfl
  keep h _ _ := h
  more h _ := h
  one h := by rw [h.1]; intro u hu; rw [List.mem_singleton.1 hu]; exact ptV_one _
theorem ptB_key {x : Nm} (h : NmOk x) : ptB (.nm x) = keyN x := by
  cases x with
  | var n =>
    unfold NmOk at h
    unfold ptB keyN
    simp only
    split
    · obtain ⟨k, hk⟩ : ∃ k : Nat, -1 - n = (k : Int) := ⟨(-1 - n).toNat, by omega⟩
      rw [hk, keyB_itoa]; rfl
    · obtain ⟨k, rfl⟩ : ∃ k : Nat, n = (k : Int) := ⟨n.toNat, by omega⟩
      rw [keyB_itoa]; rfl
  | loc l =>
    obtain ⟨s, n⟩ := l
    obtain ⟨h1, h2⟩ := h
    simp only at h1
    obtain ⟨k, rfl⟩ : ∃ k : Nat, n = (k : Int) := ⟨n.toNat, by omega⟩
    unfold ptB keyN
    cases s
    · simp only [Bool.false_eq_true, if_false]; rw [keyB_itoa]; rfl
    · simp only [if_true]; rw [keyB_itoa]; rfl
end Go.Proofs.YtppkanniefignaaGreatDoor
