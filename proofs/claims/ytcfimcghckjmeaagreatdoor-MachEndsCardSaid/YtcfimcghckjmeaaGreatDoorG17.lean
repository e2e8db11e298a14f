/- What the functions of chapters 5 and 6 answer, as plain functions. Walks: slices made, targets counted. Two arrays of two numbers, held against each other. Walks: lists of numbers: the same, copied. -/
import Derived.Test.YtcfimcghckjmeaaGreatDoorG0
import Derived.Test.YtcfimcghckjmeaaGreatDoorG2
set_option linter.unusedSimpArgs false
set_option linter.unusedVariables false
namespace Go.Proofs.YtcfimcghckjmeaaGreatDoor

/-- the parts that an Op has, as bits -/
def hasP (o : Int) : Int :=
  if o = 1 then 9 else if 2 ≤ o ∧ o ≤ 10 then 7 else if o = 11 then 11 else if o = 12 then 14 else if o = 13 then 32 else if o = 15 then 3 else if o = 16 then 18 else if o = 17 then 17 else 0
/-- the same, as letters -/
def hasL (o : Int) : ByteArray :=
  if o = 1 then ⟨#[100, 105]⟩ else if 2 ≤ o ∧ o ≤ 10 then ⟨#[100, 97, 98]⟩ else if o = 11 then ⟨#[100, 97, 105]⟩ else if o = 12 then ⟨#[97, 98, 105]⟩ else if o = 13 then ⟨#[99]⟩ else if o = 15 then ⟨#[100, 97]⟩ else if o = 16 then ⟨#[97, 115]⟩ else if o = 17 then ⟨#[100, 115]⟩ else ⟨#[]⟩
/-- is a letter one of some? -/
def hasB (c : Int) : List UInt8 → Bool
  | [] => false
  | x :: l => ((x.toNat : Int) == c) || hasB c l
def insertedB (o : Int) : Bool := o == 15 || o == 16 || o == 17
def pickI (x n : Int) : Int := if n < 1 then 0 else if x.tmod n < 0 then x.tmod n + n else x.tmod n
def markI (k i : Int) : Int := 1000003 * (k + 7) + i
def argsOf (most : Int) : Int → List Ins → Int
  | n, [] => n
  | n, i :: l => if n ≤ most then argsOf most (n + i.args.length) l else n
def blocksOf (most : Int) : Int → List Block → Int
  | n, [] => n
  | n, b :: l => if n ≤ most then blocksOf most (argsOf most (n + 1 + b.ins.length) b.ins) l else n
def sizeT (n : Int) : List Block → Int
  | [] => n
  | b :: l => sizeT (n + b.ins.length) l
def placeB (m : Machine) (frame : Int) (l : Loc) : Bool := decide (0 ≤ l.n) && (l.slot && decide (l.n < frame) || !l.slot && decide (l.n < m.regs))
/-- numbers below a bound, each once; those ahead of them -/
def argsOk (regs : Int) : List Int → List Int → Bool
  | _, [] => true
  | pre, x :: l => decide (0 ≤ x) && decide (x < regs) && !hasI x pre && argsOk regs (x :: pre) l
/-- numbers below a bound, rising; the one ahead of them -/
def savedOk (regs : Int) : Option Int → List Int → Bool
  | _, [] => true
  | p, x :: l => decide (0 ≤ x) && decide (x < regs) && (match p with | none => true | some q => decide (q < x)) && savedOk regs (some x) l
def rightM (m : Machine) : Bool :=
  decide (1 ≤ m.regs) && decide (m.regs ≤ 64) && decide (m.args.length ≤ 8) && decide ((m.saved.length : Int) ≤ m.regs) && decide (0 ≤ m.ret) && decide (m.ret < m.regs) && !hasI m.ret m.saved && argsOk m.regs [] m.args && savedOk m.regs none m.saved
def sameL : List Loc → List Loc → Bool
  | [], [] => true
  | a :: l, b :: m => (a == b) && sameL l m
  | _, _ => false
def allB (m : Machine) (frame : Int) : List Loc → Bool
  | [] => true
  | l :: r => placeB m frame l && allB m frame r
/-- The sizes of a target's lists are modest. -/
def SmallI (M : Nat) (i : Ins) : Prop := i.args.length ≤ M
def SmallB (M : Nat) (b : Block) : Prop := b.ins.length ≤ M ∧ ∀ i ∈ b.ins, SmallI M i
def SmallT (M : Nat) (l : List Block) : Prop := l.length ≤ M ∧ ∀ b ∈ l, SmallB M b
end Go.Proofs.YtcfimcghckjmeaaGreatDoor
set_option linter.unusedSimpArgs false
set_option linter.unusedVariables false
namespace Go.Proofs.YtcfimcghckjmeaaGreatDoor
open Go.RowKit

theorem info_int : (Tryz.prog.info? 3).map (fun i => (i.zero, i.size, i.bytes)) = some (some (.int .i64 0), 1, 8) := by kernel_rfl
theorem info_Ins : (Tryz.prog.info? 192).map (fun i => (i.zero, i.size, i.bytes)) = some (some (.agg #[.int .i64 0, .int .i64 0, .int .i64 0, .int .i64 0, .int .i64 0, .int .i64 0, .slice none 0 0, .int .i64 0]), 8, 80) := by kernel_rfl
theorem info_Block : (Tryz.prog.info? 201).map (fun i => (i.zero, i.size, i.bytes)) = some (some (.agg #[.slice none 0 0, .int .i64 0, .int .i64 0, .int .i64 0, .int .i64 0]), 5, 56) := by kernel_rfl
theorem info_Loc : (Tryz.prog.info? 72).map (fun i => (i.zero, i.size, i.bytes)) = some (some (.agg #[.bool false, .int .i64 0]), 2, 16) := by kernel_rfl

end Go.Proofs.YtcfimcghckjmeaaGreatDoor
set_option linter.unusedSimpArgs false
set_option linter.unusedVariables false
namespace Go.Proofs.YtcfimcghckjmeaaGreatDoor
section
variable {P : Program} (w : World)
theorem run_equalIn_arr2 (d : Nat) (t : TypeId) (k : IntKind) (a0 a1 b0 b1 : Int) (ht : P.underlying t = some (.array 2 (P.elem t))) (he : P.underlying (P.elem t) = some (.int (P.intKind (P.elem t)))) (hsz : ∀ w, (sizeOf (P.elem t)).run P w = .ok 1 w) (hd : 0 < d) :
    (Op.equalIn (d + 1) t (.agg #[.int k a0, .int k a1]) (.agg #[.int k b0, .int k b1])).run P w = .ok (a0 == b0 && a1 == b1) w := by
  obtain ⟨d, rfl⟩ : ∃ e, d = e + 1 := ⟨d - 1, by omega⟩
  rw [Op.equalIn]
  rw [Sem.run_bind, run_underlying ht]
  simp only [Result.andThen_ok]
  have hia : ∀ w, (isAgg (P.elem t)).run P w = .ok false w := fun w => by simp [isAgg, run_underlying he]
  simp [Sem.run_bind, hsz, List.range', part, hia, Op.equalIn, run_underlying he]
  by_cases h0 : a0 = b0 <;> by_cases h1 : a1 = b1 <;> simp [h0, h1]
end
attribute [go_sem] run_equalIn_arr2
end Go.Proofs.YtcfimcghckjmeaaGreatDoor
set_option linter.unusedSimpArgs false
set_option linter.unusedVariables false
namespace Go.Proofs.YtcfimcghckjmeaaGreatDoor
open Go.RowKit

theorem mem_at {α : Type} {xs : List α} {k : Nat} {x : α} (h : xs[k]? = some x) : x ∈ xs := List.mem_of_getElem? h
theorem some_eq {α : Type} {a b : α} {x : Option α} (h : x = some a) (h' : x = some b) : a = b := by rw [h] at h'; exact Option.some.inj h'

theorem sameInts_any (w : World) (S S' : Nat → Prop) (A A' : Option Addr) (n c c' : Nat) (xs : List Int) (h : Sl w S A n c xs) (h' : Sl w S' A' n c' xs) :
    Calls Tryz.prog 18 #[.slice A n c, .slice A' n c'] w (RetX (.bool true) w) := by
  have hn := h.nle
  have HS := hide h; clear h
  have HS' := hide h'; clear h'
  go_enter Tryz.func18, Tryz.ntmps18
  go_wp2
  go_loopw [5] (fun i wr => ∃ k : Nat, k ≤ n ∧ i = .int .i64 k ∧ ∃ u, wr = w.ext u) (fun i _ => n - (intOf i).toNat)
  case atStart => exact ⟨0, Nat.zero_le _, rfl, ext_refl _⟩
  case round =>
    obtain ⟨k, hk, rfl, u, rfl⟩ := hrel
    by_cases hlt : k < n
    · obtain ⟨b, off, x, rfl, hb, hx, -, hc⟩ := at_int HS.out hlt
      obtain ⟨b', off', x', rfl, hb', hx', -, hc'⟩ := at_int HS'.out hlt
      obtain rfl := some_eq hx hx'
      clear hx hx'
      go_wp2
      refine wp_region_ext (by kernel_rfl) (by kernel_rfl) ?_
      repeat (any_goals (first | go_big_quiet_step ((fail)) | quiet_step ((fail))))
      refine wpQuiet_nil ?_
      rintro _ ⟨uq, rfl⟩
      go_wp2
      go_roundw
      case rel => exact ⟨k + 1, by omega, by go_num, Below.to_ext (by repeat (first | exact Below.refl _ _ | assumption | refine Below.alloc ?_ (by simp [size_ext]; try omega) _ | refine Below.ext ?_ (by simp [size_ext]; try omega) _ | refine Below.drew ?_ | refine Below.setCell ?_ (by simp [size_ext]; try omega) _))⟩
      case measure => simp [intOf]; omega
    · go_wp2
      go_ret
      exact RetX.b rfl (by repeat (first | exact Below.refl _ _ | assumption | refine Below.alloc ?_ (by simp [size_ext]; try omega) _ | refine Below.ext ?_ (by simp [size_ext]; try omega) _ | refine Below.drew ?_ | refine Below.setCell ?_ (by simp [size_ext]; try omega) _))
end Go.Proofs.YtcfimcghckjmeaaGreatDoor
