/- Walks: small functions. What mir.Right answers, as plain functions: as the program tells it. Walks: the small functions of mir.Right. -/
import Derived.Test.YtkjipgelbjaggaaM00
import Derived.Test.YtkjipgelbjaggaaM02
import Derived.Test.YtkjipgelbjaggaaM06
set_option linter.unusedSimpArgs false
set_option linter.unusedVariables false
namespace Go.Proofs.Ytkjipgelbjaggaa
open Go.RowKit

theorem with_any (p x : Int) (w : World) :
    Calls Try.prog 45 #[.int .u8 p, .int .u8 x] w (Ret (.bool (bits .and .u8 p x != 0)) w) := by
  go_enter Try.func45, Try.ntmps45
  go_wp2
  go_ret
  exact Ret.b rfl
theorem odd_any (b : Bool) (n : Int) (w : World) :
    Calls Try.prog 84 #[.bool b, .int .i64 n] w (Ret (.bool (!b && n != 0)) w) := by
  cases b
  · go_enter Try.func84, Try.ntmps84
    go_wp2
    go_ret
    exact Ret.b rfl
  · go_enter Try.func84, Try.ntmps84
    go_wp2
    go_ret
    exact Ret.b rfl
theorem isNaN_any (x : Int) (w : World) :
    Calls Try.prog 112 #[.int .i64 x] w (Ret (.bool false) w) := by
  go_enter Try.func112, Try.ntmps112
  go_wp2
  go_ret
  exact Ret.b rfl
theorem less_any (x y : Int) (w : World) :
    Calls Try.prog 96 #[.int .i64 x, .int .i64 y] w (Ret (.bool (decide (x < y))) w) := by
  go_enter Try.func96, Try.ntmps96
  go_wp2_with (go_at_call 112; refine (isNaN_any _ _).mono ?_; rintro e w' ⟨rfl, rfl⟩)
  go_ret
  exact Ret.b rfl

/-- Whatever the function is: an answer a value. -/
theorem indexFunc_any (w : World) (S : Nat → Prop) (A : Option Addr) (n c : Nat) (xs : List Int) (f : Int → Bool) (fn : FuncId) (caps : Array Value) (h : Sl w S A n c xs)
    (hfn : ∀ (vs : Array Value) (w : World), (callFunc fn vs).run Try.prog w = .ok (.enter fn vs) w) (hf : ∀ x, InI x → Calls Try.prog fn (#[.int .i64 x] ++ caps) w (Ret (.bool (f x)) w)) :
    Calls Try.prog 73 #[.slice A n c, .func (.func fn) #[] caps] w (Ret (.int .i64 (idxF f 0 xs)) w) := by
  have hn := h.nle
  have HL := hide h.len
  have HS := hide h; clear h
  have HF := hide hf; clear hf
  go_enter Try.func73, Try.ntmps73
  go_wp2
  go_loop [8] (fun i => ∃ k : Nat, k ≤ n ∧ i = .int .i64 k ∧ idxF f 0 xs = idxF f k (xs.drop k)) (fun i => n - (intOf i).toNat)
  case atStart => exact ⟨0, Nat.zero_le _, rfl, rfl⟩
  case round =>
    obtain ⟨k, hk, rfl, hr⟩ := hrel
    have HR := hide hr; clear hr
    by_cases hlt : k < n
    · obtain ⟨b, off, x, rfl, hb, hx, hi, hc⟩ := at_int HS.out hlt
      have HX := hide (drop_at hx); clear hx
      have HI := hide hi; clear hi
      by_cases hv : f x = true
      · go_wp2_with (refine (HF.out x HI.out).mono ?_; rintro e w' ⟨rfl, rfl⟩)
        go_ret
        exact Ret.i (by rw [HR.out, HX.out]; simp [idxF, hv])
      · have hv' : f x = false := by simpa using hv
        go_wp2_with (refine (HF.out x HI.out).mono ?_; rintro e w' ⟨rfl, rfl⟩)
        go_round
        case rel => exact ⟨k + 1, by omega, by go_num, by rw [HR.out, HX.out]; simp [idxF, hv']⟩
        case measure => simp [intOf]; omega
    · go_wp2
      go_ret
      exact Ret.i (by rw [HR.out, drop_end HL.out hlt]; rfl)
theorem idxF_ge {α : Type} (f : α → Bool) (xs : List α) : ∀ k : Nat, decide (idxF f k xs ≥ 0) = anyF f xs := by
  induction xs with
  | nil => intro k; rfl
  | cons x l ih =>
    intro k
    simp only [idxF, anyF]
    by_cases hx : f x = true
    · simp [hx]
    · have := ih (k + 1)
      simpa [hx] using this
theorem containsFunc_any (w : World) (S : Nat → Prop) (A : Option Addr) (n c : Nat) (xs : List Int) (f : Int → Bool) (fn : FuncId) (caps : Array Value) (h : Sl w S A n c xs)
    (hfn : ∀ (vs : Array Value) (w : World), (callFunc fn vs).run Try.prog w = .ok (.enter fn vs) w) (hf : ∀ x, InI x → Calls Try.prog fn (#[.int .i64 x] ++ caps) w (Ret (.bool (f x)) w)) :
    Calls Try.prog 51 #[.slice A n c, .func (.func fn) #[] caps] w (Ret (.bool (anyF f xs)) w) := by
  have HS := hide h; clear h
  have HF := hide hf; clear hf
  go_enter Try.func51, Try.ntmps51
  go_wp2_with (go_at_call 73; refine (indexFunc_any _ S _ _ _ xs f fn caps HS.out hfn HF.out).mono ?_; rintro e w' ⟨rfl, rfl⟩)
  go_ret
  exact Ret.b (idxF_ge f xs 0)
def sortedI : List Int → Bool
  | [] => true
  | [_] => true
  | x :: y :: l => !decide (y < x) && sortedI (y :: l)
/-- from the place k downwards -/
def sortedTo (xs : List Int) : Nat → Bool
  | 0 => true
  | k + 1 => !decide (xs.getD (k + 1) 0 < xs.getD k 0) && sortedTo xs k
theorem isSorted_any (w : World) (S : Nat → Prop) (A : Option Addr) (n c : Nat) (xs : List Int) (h : Sl w S A n c xs) :
    Calls Try.prog 81 #[.slice A n c] w (RetX (.bool (sortedTo xs (n - 1))) w) := by
  have hn := h.nle
  have HL := hide h.len
  have HS := hide h; clear h
  by_cases hn0 : n = 0
  · subst hn0
    go_enter Try.func81, Try.ntmps81
    go_wp2
    go_loop [3] (fun i => i = .int .i64 (-1)) (fun i => 0)
    case atStart => rfl
    case round =>
      subst hrel
      go_wp2
      go_ret
      exact RetX.b rfl (Below.refl _ _)
  have en : (((n - 1 : Nat) : Int)) = (n : Int) - 1 := by omega
  have EN := hide en; clear en
  go_enter Try.func81, Try.ntmps81
  go_wp2
  go_loopw [3] (fun i wr => ∃ k : Nat, k < n ∧ i = .int .i64 k ∧ sortedTo xs (n - 1) = sortedTo xs k ∧ ∃ u : Ext, wr = w.ext u) (fun i _ => (intOf i).toNat)
  case atStart => exact ⟨n - 1, by omega, by rw [EN.out], rfl, ext_refl w⟩
  case round =>
    obtain ⟨k, hk, rfl, hr, u, rfl⟩ := hrel
    have HR := hide hr; clear hr
    by_cases h0 : k = 0
    · subst h0
      go_wp2
      go_ret
      exact RetX.b (by rw [HR.out]; rfl) (Below.of_ext _ _ (Nat.le_refl _))
    · obtain ⟨j, hj⟩ : ∃ j, k = j + 1 := ⟨k - 1, by omega⟩
      have hj1 : j < k := by omega
      have hj2 : k ≤ j + 1 := by omega
      have HJ := hide hj
      clear h0 hj
      obtain ⟨b, off, x, hA, hb, hx, hi, hc⟩ := at_int HS.out hk
      obtain ⟨b', off', y, hA', hb', hy, hi', hc'⟩ := at_int HS.out (show j < n by omega)
      subst hA
      simp only [Option.some.injEq, Addr.mk.injEq] at hA'
      obtain ⟨rfl, rfl, _⟩ := hA'
      have ex : xs.getD k 0 = x := by simp [hx]
      have ey : xs.getD j 0 = y := by simp [hy]
      have EX := hide ex; have EY := hide ey
      have HI := hide hi; have HI' := hide hi'
      clear hx hy ex ey hi hi'
      have hw : IntKind.i64.wrap ((k : Int) - 1) = (j : Int) := by rw [IntWalk.i64_in _ (by omega)]; omega
      have h1 : (0 : Int) ≤ (k : Int) := by omega
      have h2 : (k : Int) < (n : Int) := by omega
      have h3 : (0 : Int) ≤ (j : Int) := by omega
      have h4 : (j : Int) < (n : Int) := by omega
      have key : ∀ d : Bool, decide (x < y) = d → sortedTo xs k = (!d && sortedTo xs j) := by
        intro d hd
        rw [HJ.out]
        simp only [sortedTo]
        rw [← HJ.out, EX.out, EY.out, hd]
      have KEY := hide key; clear key
      by_cases hxy : x < y
      · have hd : decide (x < y) = true := by simpa using hxy
        go_wp2
        refine wp_region_ext (by kernel_rfl) (by kernel_rfl) ?_
        repeat (any_goals (first | go_big_quiet_step ((go_at_call 96; exact quiet_ret (less_any _ _ _))) | quiet_step ((go_at_call 96; exact quiet_ret (less_any _ _ _)))))
        refine wpQuiet_nil ?_
        rintro _ ⟨u1, rfl⟩
        clear hw
        go_wp2
        go_ret
        exact RetX.b (by rw [HR.out, KEY.out _ hd]; rfl) ((Below.of_ext _ _ (Nat.le_refl _)).ext (by simp [size_ext]) _)
      · have hd : decide (x < y) = false := by simpa using hxy
        go_wp2
        refine wp_region_ext (by kernel_rfl) (by kernel_rfl) ?_
        repeat (any_goals (first | go_big_quiet_step ((go_at_call 96; exact quiet_ret (less_any _ _ _))) | quiet_step ((go_at_call 96; exact quiet_ret (less_any _ _ _)))))
        refine wpQuiet_nil ?_
        rintro _ ⟨u1, rfl⟩
        go_wp2
        go_roundw
        case rel => exact ⟨j, by omega, rfl, by rw [HR.out, KEY.out _ hd]; rfl, ext_ext _ _ _⟩
        case measure => simp [intOf]; omega
end Go.Proofs.Ytkjipgelbjaggaa
set_option linter.unusedSimpArgs false
set_option linter.unusedVariables false
namespace Go.Proofs.Ytkjipgelbjaggaa
open Go.RowKit

/-- is one of some parts there? -/
def bt (p x : Int) : Bool := bits .and .u8 p x != 0
/-- is something that is not there not 0? -/
def oddB (b : Bool) (n : Int) : Bool := !b && n != 0
def regBad (m : Machine) (r : Int) : Bool := decide (r < 0) || decide (r ≥ m.regs)
def toBad (blocks : Int) (r : Int) : Bool := decide (r < 0) || decide (r ≥ blocks)
/-- the first error of an instruction, from the last case on -/
def insP9 (m : Machine) (frame : Int) (i : Ins) : Int :=
  if IntKind.u64.wrap i.callee > 99 then 2 else if IntKind.u64.wrap i.many > IntKind.u64.wrap m.args.length then 2
  else if anyF (regBad m) [i.dst, i.a, i.b] = true then 10
  else if (bt (hasP i.op) 16 && decide (IntKind.u64.wrap i.imm ≥ IntKind.u64.wrap frame)) = true then 11 else 0
def insP8 (m : Machine) (frame : Int) (i : Ins) : Int :=
  if (bt (hasP i.op) 8 && (decide (i.imm < -1099511627776) || decide (i.imm > 1099511627776))) = true then 2 else insP9 m frame i
def insP7 (m : Machine) (frame : Int) (i : Ins) : Int := if oddB (bt (hasP i.op) 32) i.many = true then 2 else insP8 m frame i
def insP6 (m : Machine) (frame : Int) (i : Ins) : Int := if oddB (bt (hasP i.op) 32) i.callee = true then 2 else insP7 m frame i
def insP5 (m : Machine) (frame : Int) (i : Ins) : Int := if oddB (bt (hasP i.op) 24) i.imm = true then 2 else insP6 m frame i
def insP4 (m : Machine) (frame : Int) (i : Ins) : Int := if oddB (bt (hasP i.op) 4) i.b = true then 2 else insP5 m frame i
def insP3 (m : Machine) (frame : Int) (i : Ins) : Int := if oddB (bt (hasP i.op) 2) i.a = true then 2 else insP4 m frame i
def insP2 (m : Machine) (frame : Int) (i : Ins) : Int := if oddB (bt (hasP i.op) 1) i.dst = true then 2 else insP3 m frame i
def insP (m : Machine) (frame : Int) (i : Ins) : Int := if (hasP i.op == 0) = true then 2 else if (0 : Int) < i.args.length then 2 else insP2 m frame i
/-- the first error of an end -/
def termP (m : Machine) (blocks : Int) (t : Term) : Int :=
  if t.kind = 1 then (if t.a ≠ 0 ∨ t.to1 ≠ 0 then 2 else if toBad blocks t.to0 then 9 else 0)
  else if t.kind = 2 then (if regBad m t.a then 10 else if toBad blocks t.to0 || toBad blocks t.to1 then 9 else 0)
  else if t.kind = 3 then (if t.to0 ≠ 0 ∨ t.to1 ≠ 0 then 2 else if t.a ≠ -1 ∧ t.a ≠ m.ret then 10 else 0)
  else if t.kind = 4 then (if t.a ≠ 0 ∨ t.to0 ≠ 0 ∨ t.to1 ≠ 0 then 2 else 0)
  else 2
/-- the first error of some -/
def inssP (m : Machine) (frame : Int) : List Ins → Int
  | [] => 0
  | i :: l => if insP m frame i = 0 then inssP m frame l else insP m frame i
def blocksP (m : Machine) (frame n : Int) : List Block → Int
  | [] => 0
  | b :: l => if inssP m frame b.ins = 0 then (if termP m n b.term = 0 then blocksP m frame n l else termP m n b.term) else inssP m frame b.ins
def rightT (m : Machine) (t : Target) : Int :=
  if rightM m = false then 2
  else if t.blocks.length = 0 then 3 else if 200 < t.blocks.length then 3 else if IntKind.u64.wrap t.frame > 400 then 3 else if anyF (fun b : Block => decide ((b.ins.length : Int) > 4000)) t.blocks = true then 3
  else blocksP m t.frame t.blocks.length t.blocks
end Go.Proofs.Ytkjipgelbjaggaa
set_option linter.unusedSimpArgs false
set_option linter.unusedVariables false
namespace Go.Proofs.Ytkjipgelbjaggaa
open Go.RowKit

/-- A frame, in memory. -/
def FrameAt (w : World) (g : Nat) (m : Machine) (frame blocks : Int) : Prop :=
  g < w.heap.size ∧ w.cell? ⟨g, 0, none⟩ = some (.int .i64 m.regs) ∧ w.cell? ⟨g, 4, none⟩ = some (.int .i64 frame) ∧ w.cell? ⟨g, 5, none⟩ = some (.int .i64 blocks)
theorem regs1_any (w : World) (g : Nat) (m : Machine) (frame blocks r : Int) (h : FrameAt w g m frame blocks) :
    Calls Try.prog 97 #[.int .i64 r, .pointer (some ⟨g, 0, none⟩)] w (Ret (.bool (regBad m r)) w) := by
  obtain ⟨hg, h0, h4, h5⟩ := h
  by_cases g1 : r < 0
  · go_enter Try.func97, Try.ntmps97
    go_wp2; go_ret; exact Ret.b (by simp [regBad, g1])
  · have d1 : decide (r < 0) = false := by simpa using g1
    go_enter Try.func97, Try.ntmps97
    go_wp2; go_ret; exact Ret.b (by simp [regBad, d1])
theorem to1_any (w : World) (g : Nat) (m : Machine) (frame blocks r : Int) (h : FrameAt w g m frame blocks) :
    Calls Try.prog 98 #[.int .i64 r, .pointer (some ⟨g, 0, none⟩)] w (Ret (.bool (toBad blocks r)) w) := by
  obtain ⟨hg, h0, h4, h5⟩ := h
  by_cases g1 : r < 0
  · go_enter Try.func98, Try.ntmps98
    go_wp2; go_ret; exact Ret.b (by simp [toBad, g1])
  · have d1 : decide (r < 0) = false := by simpa using g1
    go_enter Try.func98, Try.ntmps98
    go_wp2; go_ret; exact Ret.b (by simp [toBad, d1])
theorem term1_any (w : World) (r : Int) : Calls Try.prog 86 #[.int .i64 r] w (Ret (.bool (r != 0)) w) := by
  go_enter Try.func86, Try.ntmps86
  go_wp2; go_ret; exact Ret.b rfl
theorem enter_regs1 (vs : Array Value) (w : World) : (callFunc 97 vs).run Try.prog w = .ok (.enter 97 vs) w := by go_simp
theorem enter_to1 (vs : Array Value) (w : World) : (callFunc 98 vs).run Try.prog w = .ok (.enter 98 vs) w := by go_simp
theorem enter_term1 (vs : Array Value) (w : World) : (callFunc 86 vs).run Try.prog w = .ok (.enter 86 vs) w := by go_simp
theorem enter_many (vs : Array Value) (w : World) : (callFunc 60 vs).run Try.prog w = .ok (.enter 60 vs) w := by go_simp
theorem regs_any (w : World) (S : Nat → Prop) (m : Machine) (frame blocks : Int) (va vs : Value) (A : Option Addr) (n c : Nat) (xs : List Int) (h : Sl w S A n c xs) :
    Calls Try.prog 85 #[.agg #[.int .i64 m.regs, va, .int .i64 m.ret, vs, .int .i64 frame, .int .i64 blocks], .slice A n c] w (RetX (.bool (!anyF (regBad m) xs)) w) := by
  have HS := hide h; clear h
  go_enter Try.func85, Try.ntmps85
  go_wp2_with (go_at_call 51; refine (containsFunc_any _ S A n c xs (regBad m) 97 #[.pointer (some ⟨w.heap.size, 0, none⟩)] (by repeat (first | assumption | exact Hd.out (by assumption) | apply Sl.alloc | apply Sl.ext | apply Sl.drew | apply Sl.drewN)) enter_regs1 (fun x _ => regs1_any _ w.heap.size m frame blocks x ⟨by simp, by go_simp, by go_simp, by go_simp⟩)).mono ?_; rintro e w' ⟨rfl, rfl⟩)
  go_ret; exact RetX.b rfl (by repeat (first | exact Below.refl _ _ | assumption | refine Below.alloc ?_ (by simp [size_ext]; try omega) _ | refine Below.ext ?_ (by simp [size_ext]; try omega) _ | refine Below.drew ?_ | refine Below.setCell ?_ (by simp [size_ext]; try omega) _))
theorem to_any (w : World) (S : Nat → Prop) (m : Machine) (frame blocks : Int) (va vs : Value) (A : Option Addr) (n c : Nat) (xs : List Int) (h : Sl w S A n c xs) :
    Calls Try.prog 87 #[.agg #[.int .i64 m.regs, va, .int .i64 m.ret, vs, .int .i64 frame, .int .i64 blocks], .slice A n c] w (RetX (.bool (!anyF (toBad blocks) xs)) w) := by
  have HS := hide h; clear h
  go_enter Try.func87, Try.ntmps87
  go_wp2_with (go_at_call 51; refine (containsFunc_any _ S A n c xs (toBad blocks) 98 #[.pointer (some ⟨w.heap.size, 0, none⟩)] (by repeat (first | assumption | exact Hd.out (by assumption) | apply Sl.alloc | apply Sl.ext | apply Sl.drew | apply Sl.drewN)) enter_to1 (fun x _ => to1_any _ w.heap.size m frame blocks x ⟨by simp, by go_simp, by go_simp, by go_simp⟩)).mono ?_; rintro e w' ⟨rfl, rfl⟩)
  go_ret; exact RetX.b rfl (by repeat (first | exact Below.refl _ _ | assumption | refine Below.alloc ?_ (by simp [size_ext]; try omega) _ | refine Below.ext ?_ (by simp [size_ext]; try omega) _ | refine Below.drew ?_ | refine Below.setCell ?_ (by simp [size_ext]; try omega) _))
theorem many_any (w : World) (n c : Nat) (A : Option Addr) (v1 v2 v3 v4 : Value) :
    Calls Try.prog 60 #[.agg #[.slice A n c, v1, v2, v3, v4]] w (RetX (.bool (decide ((n : Int) > 4000))) w) := by
  go_enter Try.func60, Try.ntmps60
  go_wp2; go_ret; exact RetX.b rfl (by repeat (first | exact Below.refl _ _ | assumption | refine Below.alloc ?_ (by simp [size_ext]; try omega) _ | refine Below.ext ?_ (by simp [size_ext]; try omega) _ | refine Below.drew ?_ | refine Below.setCell ?_ (by simp [size_ext]; try omega) _))
theorem indexBlocks_any (w : World) (S : Nat → Prop) (A : Option Addr) (n c : Nat) (xs : List Block) (h : Sl w S A n c xs) :
    Calls Try.prog 83 #[.slice A n c, .func (.func 60) #[] #[]] w (RetX (.int .i64 (idxF (fun b : Block => decide ((b.ins.length : Int) > 4000)) 0 xs)) w) := by
  have hn := h.nle
  have HL := hide h.len
  have HS := hide h; clear h
  go_enter Try.func83, Try.ntmps83
  go_wp2
  go_loopw [8] (fun i wr => ∃ k : Nat, k ≤ n ∧ i = .int .i64 k ∧ idxF (fun b : Block => decide ((b.ins.length : Int) > 4000)) 0 xs = idxF (fun b : Block => decide ((b.ins.length : Int) > 4000)) k (xs.drop k) ∧ ∃ u, wr = w.ext u) (fun i _ => n - (intOf i).toNat)
  case atStart => exact ⟨0, Nat.zero_le _, rfl, rfl, ext_refl _⟩
  case round =>
    obtain ⟨k, hk, rfl, hr, u, rfl⟩ := hrel
    have HR := hide hr; clear hr
    by_cases hlt : k < n
    · obtain ⟨b, off, x, A1, n1, c1, rfl, hb, hx, hins, -, -, -, -, c0, c1, c2, c3, c4⟩ := at_Block HS.out hlt
      have HN := hide hins.len; clear hins
      have HX := hide (drop_at hx); clear hx
      by_cases hv : (n1 : Int) > 4000
      · have hd : decide ((n1 : Int) > 4000) = true := by simpa using hv
        go_wp2_with (refine (many_any _ n1 _ A1 _ _ _ _).mono ?_; rintro e _ ⟨rfl, ux, rfl⟩)
        go_ret
        exact RetX.i (by rw [HR.out, HX.out]; simp [idxF, HN.out, hv]) (by repeat (first | exact Below.refl _ _ | assumption | refine Below.alloc ?_ (by simp [size_ext]; try omega) _ | refine Below.ext ?_ (by simp [size_ext]; try omega) _ | refine Below.drew ?_ | refine Below.setCell ?_ (by simp [size_ext]; try omega) _))
      · have hd : decide ((n1 : Int) > 4000) = false := by simpa using hv
        go_wp2_with (refine (many_any _ n1 _ A1 _ _ _ _).mono ?_; rintro e _ ⟨rfl, ux, rfl⟩)
        go_roundw
        case rel => exact ⟨k + 1, by omega, by go_num, by rw [HR.out, HX.out]; simp [idxF, HN.out, hd], Below.to_ext (by repeat (first | exact Below.refl _ _ | assumption | refine Below.alloc ?_ (by simp [size_ext]; try omega) _ | refine Below.ext ?_ (by simp [size_ext]; try omega) _ | refine Below.drew ?_ | refine Below.setCell ?_ (by simp [size_ext]; try omega) _))⟩
        case measure => simp [intOf]; omega
    · go_wp2
      go_ret
      exact RetX.i (by rw [HR.out, drop_end HL.out hlt]; rfl) (by repeat (first | exact Below.refl _ _ | assumption | refine Below.alloc ?_ (by simp [size_ext]; try omega) _ | refine Below.ext ?_ (by simp [size_ext]; try omega) _ | refine Below.drew ?_ | refine Below.setCell ?_ (by simp [size_ext]; try omega) _))
theorem containsBlocks_any (w : World) (S : Nat → Prop) (A : Option Addr) (n c : Nat) (xs : List Block) (h : Sl w S A n c xs) :
    Calls Try.prog 62 #[.slice A n c, .func (.func 60) #[] #[]] w (RetX (.bool (anyF (fun b : Block => decide ((b.ins.length : Int) > 4000)) xs)) w) := by
  have HS := hide h; clear h
  go_enter Try.func62, Try.ntmps62
  go_wp2_with (go_at_call 83; refine (indexBlocks_any _ S _ _ _ xs HS.out).mono ?_; rintro e _ ⟨rfl, ux, rfl⟩)
  go_ret
  exact RetX.b (idxF_ge _ xs 0) (by repeat (first | exact Below.refl _ _ | assumption | refine Below.alloc ?_ (by simp [size_ext]; try omega) _ | refine Below.ext ?_ (by simp [size_ext]; try omega) _ | refine Below.drew ?_ | refine Below.setCell ?_ (by simp [size_ext]; try omega) _))
end Go.Proofs.Ytkjipgelbjaggaa
