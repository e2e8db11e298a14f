/- Maps of the call's own, as plain functions. law28: words as keys of a map, what they name as its elements. law28: parts of a line, as they are written. -/
import Derived.Test.YtppkanniefignaaGreatDoorG0
import Derived.Maps.Own
import Derived.Maps.OwnOps
import Derived.Maps.OwnSet
import Derived.Maps.Views
import Derived.Maps.RangeWalk
import Derived.Test.YtppkanniefignaaGreatDoorB28
import Derived.StringKeys
set_option linter.unusedSimpArgs false
set_option linter.unusedVariables false
namespace Go.Proofs.YtppkanniefignaaGreatDoor
open Go.RowKit Go.Maps
structure KeyT (P : Program) (α : Type) where
 t : TypeId
 good : α → Prop
 val : α → Value
 lit : α → Lit
 law : Keyed P t
 of : ∀ x, good x → keyOf P t (val x) = some (lit x)
 inv : ∀ v l, keyOf P t v = some l → ∃ x, good x ∧ v = val x ∧ l = lit x
 inj : ∀ x y, good x → good y → lit x = lit y → x = y
structure ElT (P : Program) (β : Type) where
 e : TypeId
 R : Value → Option (DataW Unit × List MemPlace)
 good : β → Prop
 val : β → Value
 dat : β → DataW Unit
 zero : β
 of : ∀ y, good y → R (val y) = some (dat y, [])
 inv : ∀ v z, R v = some z → ∃ y, good y ∧ v = val y ∧ z.1 = dat y
 inj : ∀ x y, dat x = dat y → x = y
 good0 : good zero
 zero_run : ∀ w, (zeroValue e).run P w = .ok (val zero) w
def upd {α β : Type} [DecidableEq α] (f : α → Option β) (x : α) (y : Option β) : α → Option β := fun z => if z = x then y else f z
section
variable {P : Program} {α β : Type} {K : KeyT P α} {E : ElT P β} {w w' : World} {b n : Nat} {f : α → Option β}
def MapP (K : KeyT P α) (E : ElT P β) (w : World) (b n : Nat) (f : α → Option β) : Prop :=
 ∃ D, w.ownsMap P K.t E.R b n D ∧ (∀ x, K.good x → Maps.has D (K.lit x) = (f x).isSome ∧ ∀ y, f x = some y → E.good y ∧ ∀ z, D.atKey (K.lit x) z = E.dat y) ∧ ∀ x, (f x).isSome = true → K.good x
theorem MapP.lt (h : MapP K E w b n f) : b < w.heap.size := by obtain ⟨D, h, _⟩ := h; exact h.lt
theorem MapP.keep (h : MapP K E w b n f) (hk : w'.heap[b]? = w.heap[b]?) : MapP K E w' b n f := by
 obtain ⟨D, ⟨es, clock, hb, r⟩, h2⟩ := h; exact ⟨D, ⟨es, clock, hk.trans hb, r⟩, h2⟩
theorem MapP.alloc (h : MapP K E w b n f) (o : Obj) : MapP K E (w.alloc o) b n f := h.keep (Below.heap_alloc w o b h.lt)
theorem MapP.ext (h : MapP K E w b n f) (u : Ext) : MapP K E (w.ext u) b n f := h.keep (ext_block w u b h.lt)
theorem MapP.setCell (h : MapP K E w b n f) {a : Addr} (ha : b ≠ a.block) (u : Value) : MapP K E (w.setCell a u) b n f := h.keep (Below.heap_setCell w a u b ha)
theorem MapP.made (w : World) : MapP K E (w.alloc (.map #[] 0)) w.heap.size 0 (fun _ => none) :=
 ⟨.map [], World.ownsMap_made w P K.t E.R, fun x _ => ⟨by simp [Maps.has], fun y hy => by cases hy⟩, fun x hx => by cases hx⟩
theorem getD_zero {D : DataW Unit} {x : α} (h1 : Maps.has D (K.lit x) = (f x).isSome) (h2 : ∀ y, f x = some y → E.good y ∧ ∀ z, D.atKey (K.lit x) z = E.dat y) : D.atKey (K.lit x) (E.dat E.zero) = E.dat ((f x).getD E.zero) := by
 cases hf : f x with
 | none => rw [hf] at h1; exact Maps.atKey_of_not_has h1 _
 | some y => exact (h2 y hf).2 _
theorem MapP.get (h : MapP K E w b n f) {t : TypeId} (ht : P.underlying t = some (.map K.t E.e)) {x : α} (hx : K.good x) : (Instr.lookup t (.map (some b)) (K.val x) false).run P w = .ok (E.val ((f x).getD E.zero)) w := by
 obtain ⟨D, h1, h2, h3⟩ := h
 obtain ⟨v, ps, hrun, hv⟩ := h1.lookup K.law ht (E.zero_run w) (E.of _ E.good0) (K.of x hx)
 obtain ⟨y, hy, rfl, hd⟩ := E.inv _ _ hv
 rw [hrun]
 have := getD_zero (E := E) (h2 x hx).1 (h2 x hx).2
 rw [this] at hd
 rw [E.inj _ _ hd]
theorem MapP.put [DecidableEq α] (h : MapP K E w b n f) {t : TypeId} (ht : P.underlying t = some (.map K.t E.e)) (hn : n < maxLen) {x : α} (hx : K.good x) {y : β} (hy : E.good y) :
  ∃ w', (Instr.mapUpdate t (.map (some b)) (K.val x) (E.val y)).run P w = .ok () w' ∧ MapP K E w' b (n + 1) (upd f x (some y)) ∧ w.grownBy w' (some b) := by
 obtain ⟨D, h1, h2, h3⟩ := h
 obtain ⟨w', hrun, ho, hg⟩ := h1.update K.law ht hn (K.of x hx) (E.of y hy)
 have hk := K.law.key (K.of x hx)
 refine ⟨w', hrun, ⟨_, ho, fun z hz => ?_, fun z hz => ?_⟩, hg⟩
 ·by_cases e : z = x
  ·subst e
   refine ⟨by rw [Maps.has_put_same h1.isMap hk]; simp [upd], fun y' hy' => ?_⟩
   simp [upd] at hy'; subst hy'
   exact ⟨hy, fun d => Maps.atKey_put_same h1.isMap hk _ d⟩
  ·have hne : K.lit z ≠ K.lit x := fun h => e (K.inj _ _ hz hx h)
   refine ⟨by rw [Maps.has_put_other hne, (h2 z hz).1]; simp [upd, e], fun y' hy' => ?_⟩
   simp [upd, e] at hy'
   exact ⟨((h2 z hz).2 y' hy').1, fun d => by rw [Maps.atKey_put_other hne]; exact ((h2 z hz).2 y' hy').2 d⟩
 ·by_cases e : z = x
  ·subst e; exact hx
  ·simp [upd, e] at hz; exact h3 z hz
end
section
variable {P : Program} {α β : Type} {K : KeyT P α} {E : ElT P β} {w : World} {n b : Nat} {f : α → Option β} {ops : Array Oper} {rest : List Oper} {o : Oper} {a : Act} {Q : Exit → Act → World → Prop}
theorem wpList_put_map [DecidableEq α] (hg : o.guard = none) (m x v : Operand) (t : TypeId) (hop : o.op = Op.mapUpdate t m x v) (ht : P.underlying t = some (.map K.t E.e)) (hm : a.eval m = .map (some b)) (hown : MapP K E w b n f) (hn : n < maxLen) (k : α) (hx : a.eval x = K.val k) (hk : K.good k) (y : β) (hv : a.eval v = E.val y) (hy : E.good y)
  (hK : ∀ w', MapP K E w' b (n + 1) (upd f k (some y)) → w.grownBy w' (some b) → wpList P ops Q rest (a.put o.dst undef) w') : wpList P ops Q (o :: rest) a w := by
 refine wpList_plain hg fun K' hK' => ?_
 obtain ⟨w', hrun, r1, r2⟩ := hown.put ht hn hk hy
 unfold Oper.wp
 simp [execOp, hop, hm, hx, hv, hrun, Result.andThen]
 exact hK' _ _ (hK w' r1 r2)
end
section
variable {P : Program} {α β : Type} {K : KeyT P α} {E : ElT P β} {w w' : World} {b r n : Nat} {f : α → Option β} {left : α → Bool} {cnt : Nat}
end
section
variable {P : Program}
def blkR (v : Value) : Option (DataW Unit × List MemPlace) :=
 match v with
 | .map none => some (.nil, [])
 | .map (some b) => some (.lit (.int .i64 b), [])
 | _ => none
end
end Go.Proofs.YtppkanniefignaaGreatDoor
namespace Go.Proofs.YtppkanniefignaaGreatDoor
open Go.RowKit Go.Maps
noncomputable def strK : KeyT Tryz.prog ByteArray where
 t := 9
 good s := s.size ≤ maxLen
 val := .string
 lit s := .string s.data.toList
 law := string_keyed Tryz.underlying9
 of s hs := WideMaps.keyOf_string_mk Tryz.underlying9 hs
 inv v l h := by obtain ⟨s, e1, e2, e3⟩ := WideMaps.string_of_keyOf Tryz.underlying9 h; exact ⟨s, e3, e1, e2⟩
 inj x y _ _ h := by
  have h : x.data.toList = y.data.toList := by injection h
  exact bytes_ext h
def nmV : Nm → Value
 | .var n => .iface 118 (.int .i64 n)
 | .loc l => .iface 40 (.agg #[.bool l.slot, .int .i64 l.n])
def nmV? : Option Nm → Value
 | none => .nilIface
 | some x => nmV x
def NmIn : Nm → Prop
 | .var n => InI n
 | .loc l => InI l.n
def nmR (v : Value) : Option (DataW Unit × List MemPlace) :=
 match v with
 | .nilIface => some (.nil, [])
 | .iface t (.int .i64 n) => if t = 118 ∧ -9223372036854775808 ≤ n ∧ n ≤ 9223372036854775807 then some (.lit (.int .i64 n), []) else none
 | .iface t (.agg ⟨[.bool s, .int .i64 n]⟩) => if t = 40 ∧ -9223372036854775808 ≤ n ∧ n ≤ 9223372036854775807 then some (.agg [.lit (.bool s), .lit (.int .i64 n)], []) else none
 | _ => none
theorem zeroAny_run (w : World) : (zeroValue 20).run Tryz.prog w = .ok .nilIface w := by kernel_rfl
noncomputable def nmE : ElT Tryz.prog (Option Nm) where
 e := 20
 R := nmR
 good x := match x with | none => True | some y => NmIn y
 val := nmV?
 dat x := match x with | none => .nil | some (.var n) => .lit (.int .i64 n) | some (.loc l) => .agg [.lit (.bool l.slot), .lit (.int .i64 l.n)]
 zero := none
 of y hy := by
  cases y with
  | none => rfl
  | some y =>
   cases y with
   | var n =>
    show nmR (.iface _ _) = _
    unfold nmR
    exact if_pos ⟨rfl, hy⟩
   | loc l =>
    show nmR (.iface _ _) = _
    unfold nmR
    exact if_pos ⟨rfl, hy⟩
 inv v z h := by
  unfold nmR at h
  split at h
  ·cases h; exact ⟨none, trivial, rfl, rfl⟩
  ·split at h
   ·rename_i hc
    cases h
    obtain ⟨rfl, hn⟩ := hc
    exact ⟨some (.var _), hn, rfl, rfl⟩
   ·cases h
  ·split at h
   ·rename_i hc
    cases h
    obtain ⟨rfl, hn⟩ := hc
    exact ⟨some (.loc ⟨_, _⟩), hn, rfl, rfl⟩
   ·cases h
  ·cases h
 inj x y h := by
  cases x with
  | none => cases y with
   | none => rfl
   | some y => cases y <;> cases h
  | some x =>
   cases y with
   | none => cases x <;> cases h
   | some y =>
    cases x with
    | var n => cases y with
     | var m => simp at h; rw [h]
     | loc l => cases h
    | loc l => cases y with
     | var m => cases h
     | loc m =>
      obtain ⟨s, n⟩ := l
      obtain ⟨s', n'⟩ := m
      simp at h
      rw [h.1, h.2]
 good0 := trivial
 zero_run := zeroAny_run
def filW (p : Nm → Bool) (s : ByteArray) : Option (Option Nm) := match nameW s with
 | some x => if p x = true then some (some x) else none
 | none => none
theorem NmOk.in_ {x : Nm} (h : NmOk x) : NmIn x := by
 cases x with
 | var n => unfold NmOk at h; unfold NmIn InI; omega
 | loc l =>
  obtain ⟨h1, h2⟩ : 0 ≤ l.n ∧ l.n < _ := h
  show InI l.n
  unfold InI
  split at h2 <;> omega
theorem filW_put {p q : Nm → Bool} {x : Nm} (hx : NmOk x) (hq : ∀ y, q y = (p y || decide (y = x))) : upd (filW p) (keyN x) (some (some x)) = filW q := by
 funext s
 unfold upd
 by_cases h : s = keyN x
 ·rw [if_pos h, h]
  unfold filW
  rw [nameW_key hx]
  simp [hq]
 ·rw [if_neg h]
  unfold filW
  cases hn : nameW s with
  | none => rfl
  | some y =>
   have hne : y ≠ x := fun e => h (e ▸ (nameW_inv hn).1)
   simp [hq, hne]
theorem filW_none : filW (fun _ => false) = fun _ => none := by
 funext s
 unfold filW
 cases nameW s <;> rfl
theorem filW_all {p : Nm → Bool} (h : ∀ x, NmOk x → p x = true) (s : ByteArray) : filW p s = (nameW s).map some := by
 unfold filW
 cases hn : nameW s with
 | none => rfl
 | some x => simp [h x (nameW_inv hn).2]
abbrev NmMap (w : World) (b n : Nat) (f : ByteArray → Option (Option Nm)) : Prop := MapP strK nmE w b n f
end Go.Proofs.YtppkanniefignaaGreatDoor
namespace Go.Proofs.YtppkanniefignaaGreatDoor
open Go.RowKit Go.Maps
inductive Pt where
 | str (s : ByteArray)
 | int (n : Int)
 | nm (x : Nm)
def ptV : Pt → Value
 | .str s => .iface 9 (.string s)
 | .int n => .iface 3 (.int .i64 n)
 | .nm x => nmV x
def PtIn : Pt → Prop
 | .str s => s.size ≤ 1048576
 | .int n => InI n
 | .nm x => NmIn x
def ptB : Pt → ByteArray
 | .str s => s
 | .int n => itoaB n
 | .nm (.var n) => if n < 0 then ⟨#[104]⟩ ++ itoaB (-1 - n) else ⟨#[118]⟩ ++ itoaB n
 | .nm (.loc l) => (if l.slot = true then ⟨#[115]⟩ else ⟨#[114]⟩) ++ itoaB l.n
theorem ptV_one (x : Pt) : (ptV x).oneCell' = true := by
 cases x with
 | str s => rfl
 | int n => rfl
 | nm x => cases x <;> rfl
instance : Rep Pt where
 size := 1
 is _ _ x vs := vs = [ptV x] ∧ PtIn x
 len h := by rw [h.1]; rfl
 keep h _ _ := h
 more h _ := h
 one h := by rw [h.1]; intro u hu; rw [List.mem_singleton.1 hu]; exact ptV_one _
theorem ptB_key {x : Nm} (h : NmOk x) : ptB (.nm x) = keyN x := by
 cases x with
 | var n =>
  unfold NmOk at h
  unfold ptB keyN
  simp only
  split
  ·obtain ⟨k, hk⟩ : ∃ k : Nat, -1 - n = (k : Int) := ⟨(-1 - n).toNat, by omega⟩
   rw [hk, keyB_itoa]; rfl
  ·obtain ⟨k, rfl⟩ : ∃ k : Nat, n = (k : Int) := ⟨n.toNat, by omega⟩
   rw [keyB_itoa]; rfl
 | loc l =>
  obtain ⟨s, n⟩ := l
  obtain ⟨h1, h2⟩ := h
  simp only at h1
  obtain ⟨k, rfl⟩ : ∃ k : Nat, n = (k : Int) := ⟨n.toNat, by omega⟩
  unfold ptB keyN
  cases s
  ·simp only [Bool.false_eq_true, if_false]; rw [keyB_itoa]; rfl
  ·simp only [if_true]; rw [keyB_itoa]; rfl
end Go.Proofs.YtppkanniefignaaGreatDoor
