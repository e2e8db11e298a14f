/- law28: words as keys of a map, what they name as its elements. -/
import Derived.Test.YtppkanniefignaaDoorB28
import Derived.Test.YtppkanniefignaaDoorMp
import Derived.StringKeys
set_option linter.unusedSimpArgs false
set_option linter.unusedVariables false
namespace Go.Proofs.YtppkanniefignaaDoor
open Go.RowKit Go.Maps

/-- Keys that are texts. -/
noncomputable def strK : KeyT Tryd.prog ByteArray where
  t := 9
  good s := s.size ≤ maxLen
  val := .string
  lit s := .string s.data.toList
  law := string_keyed Tryd.underlying9
  of s hs := WideMaps.keyOf_string_mk Tryd.underlying9 hs
  inv v l h := by obtain ⟨s, e1, e2, e3⟩ := WideMaps.string_of_keyOf Tryd.underlying9 h; exact ⟨s, e3, e1, e2⟩
  inj x y _ _ h := by
    have h : x.data.toList = y.data.toList := by injection h
    exact bytes_ext h
/-- What a word names, as a value of any type. -/
def nmV : Nm → Value
  | .var n => .iface 79 (.int .i64 n)
  | .loc l => .iface 23 (.agg #[.bool l.slot, .int .i64 l.n])
def nmV? : Option Nm → Value
  | none => .nilIface
  | some x => nmV x
def NmIn : Nm → Prop
  | .var n => InI n
  | .loc l => InI l.n
def nmR (v : Value) : Option (DataW Unit × List MemPlace) :=
  match v with
  | .nilIface => some (.nil, [])
  | .iface t (.int .i64 n) => if t = 79 ∧ -9223372036854775808 ≤ n ∧ n ≤ 9223372036854775807 then some (.lit (.int .i64 n), []) else none
  | .iface t (.agg ⟨[.bool s, .int .i64 n]⟩) => if t = 23 ∧ -9223372036854775808 ≤ n ∧ n ≤ 9223372036854775807 then some (.agg [.lit (.bool s), .lit (.int .i64 n)], []) else none
  | _ => none
theorem zeroAny_run (w : World) : (zeroValue 20).run Tryd.prog w = .ok .nilIface w := by kernel_rfl
noncomputable def nmE : ElT Tryd.prog (Option Nm) where
  e := 20
  R := nmR
  good x := match x with | none => True | some y => NmIn y
  val := nmV?
  dat x := match x with | none => .nil | some (.var n) => .lit (.int .i64 n) | some (.loc l) => .agg [.lit (.bool l.slot), .lit (.int .i64 l.n)]
  zero := none
  of y hy := by
    cases y with
    | none => rfl
    | some y =>
      cases y with
      | var n =>
        show nmR (.iface _ _) = _
        unfold nmR
        exact if_pos ⟨rfl, hy⟩
      | loc l =>
        show nmR (.iface _ _) = _
        unfold nmR
        exact if_pos ⟨rfl, hy⟩
  inv v z h := by
    unfold nmR at h
    split at h
    · cases h; exact ⟨none, trivial, rfl, rfl⟩
    · split at h
      · rename_i hc
        cases h
        obtain ⟨rfl, hn⟩ := hc
        exact ⟨some (.var _), hn, rfl, rfl⟩
      · cases h
    · split at h
      · rename_i hc
        cases h
        obtain ⟨rfl, hn⟩ := hc
        exact ⟨some (.loc ⟨_, _⟩), hn, rfl, rfl⟩
      · cases h
    · cases h
  inj x y h := by
    cases x with
    | none => cases y with
      | none => rfl
      | some y => cases y <;> cases h
    | some x =>
      cases y with
      | none => cases x <;> cases h
      | some y =>
        cases x with
        | var n => cases y with
          | var m => simp at h; rw [h]
          | loc l => cases h
        | loc l => cases y with
          | var m => cases h
          | loc m =>
            obtain ⟨s, n⟩ := l
            obtain ⟨s', n'⟩ := m
            simp at h
            rw [h.1, h.2]
  good0 := trivial
  zero_run := zeroAny_run
/-- The map of what words name, so far as p lets it. -/
def filW (p : Nm → Bool) (s : ByteArray) : Option (Option Nm) := match nameW s with
  | some x => if p x = true then some (some x) else none
  | none => none
theorem NmOk.in_ {x : Nm} (h : NmOk x) : NmIn x := by
  cases x with
  | var n => unfold NmOk at h; unfold NmIn InI; omega
  | loc l =>
    obtain ⟨h1, h2⟩ : 0 ≤ l.n ∧ l.n < _ := h
    show InI l.n
    unfold InI
    split at h2 <;> omega
theorem filW_put {p q : Nm → Bool} {x : Nm} (hx : NmOk x) (hq : ∀ y, q y = (p y || decide (y = x))) : upd (filW p) (keyN x) (some (some x)) = filW q := by
  funext s
  unfold upd
  by_cases h : s = keyN x
  · rw [if_pos h, h]
    unfold filW
    rw [nameW_key hx]
    simp [hq]
  · rw [if_neg h]
    unfold filW
    cases hn : nameW s with
    | none => rfl
    | some y =>
      have hne : y ≠ x := fun e => h (e ▸ (nameW_inv hn).1)
      simp [hq, hne]
theorem filW_none : filW (fun _ => false) = fun _ => none := by
  funext s
  unfold filW
  cases nameW s <;> rfl
theorem filW_all {p : Nm → Bool} (h : ∀ x, NmOk x → p x = true) (s : ByteArray) : filW p s = (nameW s).map some := by
  unfold filW
  cases hn : nameW s with
  | none => rfl
  | some x => simp [h x (nameW_inv hn).2]
abbrev NmMap (w : World) (b n : Nat) (f : ByteArray → Option (Option Nm)) : Prop := MapP strK nmE w b n f
end Go.Proofs.YtppkanniefignaaDoor
