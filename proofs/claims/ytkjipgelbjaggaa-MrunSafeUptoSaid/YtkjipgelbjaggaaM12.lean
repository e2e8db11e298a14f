/- Walks: what an instruction, an end reads and writes, the program's way; are places the same. -/
import Derived.Test.YtkjipgelbjaggaaM10
import Derived.Test.YtkjipgelbjaggaaM11
import Derived.Test.YtkjipgelbjaggaaM08
import Derived.Test.YtkjipgelbjaggaaM07
set_option linter.unusedSimpArgs false
set_option linter.unusedVariables false
namespace Go.Proofs.Ytkjipgelbjaggaa
open Go.RowKit

def regsL (l : List Int) : List Loc := l.map fun r => ⟨false, r⟩
def manyN (m : Machine) (i : Ins) : Nat := (max (min i.many (m.args.length : Int)) 0).toNat
def readsP (m : Machine) (i : Ins) : List Loc :=
  if bt (hasP i.op) 32 = true then regsL (m.args.take (manyN m i)) else if bt (hasP i.op) 4 = true then [⟨false, i.a⟩, ⟨false, i.b⟩] else if bt (hasP i.op) 2 = true then [⟨false, i.a⟩] else if bt (hasP i.op) 16 = true then [⟨true, i.imm⟩] else []
def writesP (m : Machine) (i : Ins) : List Loc :=
  if bt (hasP i.op) 32 = true then [⟨false, m.ret⟩] else if bt (hasP i.op) 1 = true then [⟨false, i.dst⟩] else if bt (hasP i.op) 16 = true then [⟨true, i.imm⟩] else []
def needsP (t : Term) : List Loc := if t.kind = 2 ∨ t.kind = 3 ∧ t.a ≠ -1 then [⟨false, t.a⟩] else []

theorem retSl_of {α : Type} [Rep α] {w W W' : World} {T : TypeId} {S : Nat → Prop} {A : Option Addr} {n c : Nat} {xs ys : List α} (he : ys = xs) (ho : OwnL W' W.heap.size T S (.slice A n c) xs) (hS : ∀ b, S b → W.heap.size ≤ b ∧ b < W'.heap.size)
    (hw : w.heap.size ≤ W.heap.size) (hb : Below w.heap.size w W') : RetSl ys w (.returned (.slice A n c)) W' :=
  ⟨A, n, c, rfl, by rw [he]; exact ho.sl (fun b _ hb => by rcases hb with hb | hb; exact Nat.le_trans hw (hS b hb).1; exact Nat.le_trans hw hb), Below.to_ext hb⟩
theorem readsP_call_eq {m : Machine} {i : Ins} {k : Nat} (c32 : bt (hasP i.op) 32 = true) (hk : manyN m i = k) : readsP m i = (m.args.take k).map fun r => (⟨false, r⟩ : Loc) := by
  rw [readsP, if_pos c32, hk]; rfl
set_option maxHeartbeats 400000 in
theorem readsP_call (w : World) (S1 : Nat → Prop) (m : Machine) (A1 A2 : Option Addr) (n1 c1 n2 c2 : Nat) (h1 : Sl w S1 A1 n1 c1 m.args) (hn : n1 ≤ 1048576) (i : Ins) (A : Option Addr) (n c : Nat) (c32 : bt (hasP i.op) 32 = true) :
    Calls Try.prog 20 #[.agg #[.int .i64 m.regs, .slice A1 n1 c1, .int .i64 m.ret, .slice A2 n2 c2], .agg #[.int .i64 i.op, .int .i64 i.dst, .int .i64 i.a, .int .i64 i.b, .int .i64 i.imm, .int .i64 i.callee, .slice A n c, .int .i64 i.many]] w (RetSl (readsP m i) w) := by
  have H1 := hide h1
  have hle : n1 ≤ c1 := h1.2.1
  clear h1
  go_enter Try.func20, Try.ntmps20
  go_wp2_with (first | (go_at_call 44; refine (has_any _ _).mono ?_; rintro e _ ⟨rfl, ux, rfl⟩) | (go_at_call 45; (with_reducible refine (withb_eq _ 32 _ c32).mono ?_); rintro e w' ⟨rfl, rfl⟩))
  all_goals
    refine (places_any _ S1 A1 _ c1 (m.args.take _) (Sl.take_ (((H1.out.alloc _).alloc _).ext ux) (by omega)) (by omega)).mono ?_
    rintro e _ ⟨A', n', c', S', rfl, ho, hs, u2, rfl⟩
    have HO := hide ho; have HS := hide hs
    clear ho hs
    go_wp2
    go_ret
    refine retSl_of (readsP_call_eq c32 ?_) HO.out HS.out (by simp [size_ext]; omega) (by repeat (first | exact Below.refl _ _ | assumption | exact Hd.out (by assumption) | refine Below.alloc ?_ (by first | omega | (simp [size_ext]; try omega)) _ | refine Below.ext ?_ (by first | omega | (simp [size_ext]; try omega)) _ | refine Below.drew ?_ | refine Below.setCell ?_ (by first | omega | (simp [size_ext]; try omega)) _))
    have hl := H1.out.len
    unfold manyN; rw [hl]; omega

theorem sl_ints {w : World} {S : Nat → Prop} {T : TypeId} {n g : Nat} (xs : List Int) (hx : ∀ x ∈ xs, InI x) (hg : g = w.heap.size) (hn : xs.length = n) (hm : n ≤ 9223372036854775807) (hg' : S g) : Sl (w.alloc (.cells (xs.map (Value.int .i64)).toArray T)) S (some ⟨g, 0, none⟩) n n xs :=
  Sl.lit (S := fun _ => False) hg (RepL.ints xs hx) hn hm (fun _ h => h.elim) hg'
theorem retSl_loc {w W : World} {T : TypeId} {g : Nat} {x : Loc} {ys : List Loc} (he : ys = [x]) (hx : InI x.n) (hg : g = W.heap.size) (hw : w.heap.size ≤ W.heap.size) (hb : Below w.heap.size w W) :
    RetSl ys w (.returned (.slice (some ⟨g, 0, none⟩) 1 1)) (W.alloc (.cells #[.bool x.slot, .int .i64 x.n] T)) :=
  ⟨_, _, _, rfl, by rw [he]; exact Sl.lit (us := [.bool x.slot, .int .i64 x.n]) (S := fun _ => False) hg (RepL.single (Loc.mk_ hx)) rfl (by decide) (fun _ h => h.elim) (by rw [hg]; exact hw), Below.to_ext (hb.alloc hw _)⟩
theorem retSl_nil {α : Type} [Rep α] {w W : World} {ys : List α} (he : ys = []) (hb : Below w.heap.size w W) : RetSl ys w (.returned (.slice none 0 0)) W :=
  ⟨_, _, _, rfl, by rw [he]; exact Sl.nil, Below.to_ext hb⟩
theorem two_ini {a b : Int} (ha : InI a) (hb : InI b) : ∀ x ∈ [a, b], InI x := by intro x hx; rcases List.mem_cons.1 hx with rfl | hx; exact ha; rcases List.mem_cons.1 hx with rfl | hx; exact hb; cases hx
theorem one_ini {a : Int} (ha : InI a) : ∀ x ∈ [a], InI x := by intro x hx; rcases List.mem_cons.1 hx with rfl | hx; exact ha; cases hx
theorem places_two (W : World) (T : TypeId) (g : Nat) (a b : Int) (ha : InI a) (hb : InI b) (hg : g = W.heap.size) :
    Calls Try.prog 43 #[.slice (some ⟨g, 0, none⟩) 2 2] (W.alloc (.cells #[.int .i64 a, .int .i64 b] T)) (RetO 70 [(⟨false, a⟩ : Loc), ⟨false, b⟩] (W.alloc (.cells #[.int .i64 a, .int .i64 b] T))) :=
  places_any _ (fun _ => True) _ _ _ [a, b] (sl_ints [a, b] (two_ini ha hb) hg rfl (by decide) trivial) (by decide)
theorem places_one (W : World) (T : TypeId) (g : Nat) (a : Int) (ha : InI a) (hg : g = W.heap.size) :
    Calls Try.prog 43 #[.slice (some ⟨g, 0, none⟩) 1 1] (W.alloc (.cells #[.int .i64 a] T)) (RetO 70 [(⟨false, a⟩ : Loc)] (W.alloc (.cells #[.int .i64 a] T))) :=
  places_any _ (fun _ => True) _ _ _ [a] (sl_ints [a] (one_ini ha) hg rfl (by decide) trivial) (by decide)
set_option maxHeartbeats 400000 in
theorem readsP_two (w : World) (m : Machine) (A1 A2 : Option Addr) (n1 c1 n2 c2 : Nat) (i : Ins) (A : Option Addr) (n c : Nat) (h32 : bt (hasP i.op) 32 = false) (h4 : bt (hasP i.op) 4 = true) (ia : InI i.a) (ib : InI i.b) :
    Calls Try.prog 20 #[.agg #[.int .i64 m.regs, .slice A1 n1 c1, .int .i64 m.ret, .slice A2 n2 c2], .agg #[.int .i64 i.op, .int .i64 i.dst, .int .i64 i.a, .int .i64 i.b, .int .i64 i.imm, .int .i64 i.callee, .slice A n c, .int .i64 i.many]] w (RetSl (readsP m i) w) := by
  have G0 := hide ia; clear ia
  have G1 := hide ib; clear ib
  go_enter Try.func20, Try.ntmps20
  go_wp2_with (first | (go_at_call 44; refine (has_any _ _).mono ?_; rintro e _ ⟨rfl, ux, rfl⟩) | (go_at_call 45; (with_reducible refine (withb_eq _ 32 _ h32).mono ?_); rintro e w' ⟨rfl, rfl⟩) | (go_at_call 45; (with_reducible refine (withb_eq _ 4 _ h4).mono ?_); rintro e w' ⟨rfl, rfl⟩) | (go_at_call 43; (with_reducible refine (places_two _ _ _ _ _ G0.out G1.out (by simp [size_ext])).mono ?_); rintro e _ ⟨A', n', c', S', rfl, ho, hs, u2, rfl⟩; have HO := hide ho; have HS := hide hs; clear ho hs))
  go_ret
  exact retSl_of (by rw [readsP, if_neg (by rw [h32]; decide), if_pos h4]) HO.out HS.out (by simp [size_ext]; omega) (by repeat (first | exact Below.refl _ _ | assumption | exact Hd.out (by assumption) | refine Below.alloc ?_ (by first | omega | (simp [size_ext]; try omega)) _ | refine Below.ext ?_ (by first | omega | (simp [size_ext]; try omega)) _ | refine Below.drew ?_ | refine Below.setCell ?_ (by first | omega | (simp [size_ext]; try omega)) _))
set_option maxHeartbeats 400000 in
theorem readsP_one (w : World) (m : Machine) (A1 A2 : Option Addr) (n1 c1 n2 c2 : Nat) (i : Ins) (A : Option Addr) (n c : Nat) (h32 : bt (hasP i.op) 32 = false) (h4 : bt (hasP i.op) 4 = false) (h2 : bt (hasP i.op) 2 = true) (ia : InI i.a) :
    Calls Try.prog 20 #[.agg #[.int .i64 m.regs, .slice A1 n1 c1, .int .i64 m.ret, .slice A2 n2 c2], .agg #[.int .i64 i.op, .int .i64 i.dst, .int .i64 i.a, .int .i64 i.b, .int .i64 i.imm, .int .i64 i.callee, .slice A n c, .int .i64 i.many]] w (RetSl (readsP m i) w) := by
  have G0 := hide ia; clear ia
  go_enter Try.func20, Try.ntmps20
  go_wp2_with (first | (go_at_call 44; refine (has_any _ _).mono ?_; rintro e _ ⟨rfl, ux, rfl⟩) | (go_at_call 45; (with_reducible refine (withb_eq _ 32 _ h32).mono ?_); rintro e w' ⟨rfl, rfl⟩) | (go_at_call 45; (with_reducible refine (withb_eq _ 4 _ h4).mono ?_); rintro e w' ⟨rfl, rfl⟩) | (go_at_call 45; (with_reducible refine (withb_eq _ 2 _ h2).mono ?_); rintro e w' ⟨rfl, rfl⟩) | (go_at_call 43; (with_reducible refine (places_one _ _ _ _ G0.out (by simp [size_ext])).mono ?_); rintro e _ ⟨A', n', c', S', rfl, ho, hs, u2, rfl⟩; have HO := hide ho; have HS := hide hs; clear ho hs))
  go_ret
  exact retSl_of (by rw [readsP, if_neg (by rw [h32]; decide), if_neg (by rw [h4]; decide), if_pos h2]) HO.out HS.out (by simp [size_ext]; omega) (by repeat (first | exact Below.refl _ _ | assumption | exact Hd.out (by assumption) | refine Below.alloc ?_ (by first | omega | (simp [size_ext]; try omega)) _ | refine Below.ext ?_ (by first | omega | (simp [size_ext]; try omega)) _ | refine Below.drew ?_ | refine Below.setCell ?_ (by first | omega | (simp [size_ext]; try omega)) _))
set_option maxHeartbeats 400000 in
theorem readsP_slot (w : World) (m : Machine) (A1 A2 : Option Addr) (n1 c1 n2 c2 : Nat) (i : Ins) (A : Option Addr) (n c : Nat) (h32 : bt (hasP i.op) 32 = false) (h4 : bt (hasP i.op) 4 = false) (h2 : bt (hasP i.op) 2 = false) (h16 : bt (hasP i.op) 16 = true) (ii : InI i.imm) :
    Calls Try.prog 20 #[.agg #[.int .i64 m.regs, .slice A1 n1 c1, .int .i64 m.ret, .slice A2 n2 c2], .agg #[.int .i64 i.op, .int .i64 i.dst, .int .i64 i.a, .int .i64 i.b, .int .i64 i.imm, .int .i64 i.callee, .slice A n c, .int .i64 i.many]] w (RetSl (readsP m i) w) := by
  have G0 := hide ii; clear ii
  go_enter Try.func20, Try.ntmps20
  go_wp2_with (first | (go_at_call 44; refine (has_any _ _).mono ?_; rintro e _ ⟨rfl, ux, rfl⟩) | (go_at_call 45; (with_reducible refine (withb_eq _ 32 _ h32).mono ?_); rintro e w' ⟨rfl, rfl⟩) | (go_at_call 45; (with_reducible refine (withb_eq _ 4 _ h4).mono ?_); rintro e w' ⟨rfl, rfl⟩) | (go_at_call 45; (with_reducible refine (withb_eq _ 2 _ h2).mono ?_); rintro e w' ⟨rfl, rfl⟩) | (go_at_call 45; (with_reducible refine (withb_eq _ 16 _ h16).mono ?_); rintro e w' ⟨rfl, rfl⟩))
  go_ret
  exact retSl_loc (x := ⟨true, i.imm⟩) (by rw [readsP, if_neg (by rw [h32]; decide), if_neg (by rw [h4]; decide), if_neg (by rw [h2]; decide), if_pos h16]) G0.out (by simp [size_ext]) (by simp [size_ext]; omega) (by repeat (first | exact Below.refl _ _ | assumption | exact Hd.out (by assumption) | refine Below.alloc ?_ (by first | omega | (simp [size_ext]; try omega)) _ | refine Below.ext ?_ (by first | omega | (simp [size_ext]; try omega)) _ | refine Below.drew ?_ | refine Below.setCell ?_ (by first | omega | (simp [size_ext]; try omega)) _))
set_option maxHeartbeats 400000 in
theorem readsP_none (w : World) (m : Machine) (A1 A2 : Option Addr) (n1 c1 n2 c2 : Nat) (i : Ins) (A : Option Addr) (n c : Nat) (h32 : bt (hasP i.op) 32 = false) (h4 : bt (hasP i.op) 4 = false) (h2 : bt (hasP i.op) 2 = false) (h16 : bt (hasP i.op) 16 = false)  :
    Calls Try.prog 20 #[.agg #[.int .i64 m.regs, .slice A1 n1 c1, .int .i64 m.ret, .slice A2 n2 c2], .agg #[.int .i64 i.op, .int .i64 i.dst, .int .i64 i.a, .int .i64 i.b, .int .i64 i.imm, .int .i64 i.callee, .slice A n c, .int .i64 i.many]] w (RetSl (readsP m i) w) := by
  go_enter Try.func20, Try.ntmps20
  go_wp2_with (first | (go_at_call 44; refine (has_any _ _).mono ?_; rintro e _ ⟨rfl, ux, rfl⟩) | (go_at_call 45; (with_reducible refine (withb_eq _ 32 _ h32).mono ?_); rintro e w' ⟨rfl, rfl⟩) | (go_at_call 45; (with_reducible refine (withb_eq _ 4 _ h4).mono ?_); rintro e w' ⟨rfl, rfl⟩) | (go_at_call 45; (with_reducible refine (withb_eq _ 2 _ h2).mono ?_); rintro e w' ⟨rfl, rfl⟩) | (go_at_call 45; (with_reducible refine (withb_eq _ 16 _ h16).mono ?_); rintro e w' ⟨rfl, rfl⟩))
  go_ret
  exact retSl_nil (by rw [readsP, if_neg (by rw [h32]; decide), if_neg (by rw [h4]; decide), if_neg (by rw [h2]; decide), if_neg (by rw [h16]; decide)]) (by repeat (first | exact Below.refl _ _ | assumption | exact Hd.out (by assumption) | refine Below.alloc ?_ (by first | omega | (simp [size_ext]; try omega)) _ | refine Below.ext ?_ (by first | omega | (simp [size_ext]; try omega)) _ | refine Below.drew ?_ | refine Below.setCell ?_ (by first | omega | (simp [size_ext]; try omega)) _))
set_option maxHeartbeats 400000 in
theorem writesP_call (w : World) (m : Machine) (A1 A2 : Option Addr) (n1 c1 n2 c2 : Nat) (i : Ins) (A : Option Addr) (n c : Nat) (h32 : bt (hasP i.op) 32 = true) (ir : InI m.ret) :
    Calls Try.prog 21 #[.agg #[.int .i64 m.regs, .slice A1 n1 c1, .int .i64 m.ret, .slice A2 n2 c2], .agg #[.int .i64 i.op, .int .i64 i.dst, .int .i64 i.a, .int .i64 i.b, .int .i64 i.imm, .int .i64 i.callee, .slice A n c, .int .i64 i.many]] w (RetSl (writesP m i) w) := by
  have G0 := hide ir; clear ir
  go_enter Try.func21, Try.ntmps21
  go_wp2_with (first | (go_at_call 44; refine (has_any _ _).mono ?_; rintro e _ ⟨rfl, ux, rfl⟩) | (go_at_call 45; (with_reducible refine (withb_eq _ 32 _ h32).mono ?_); rintro e w' ⟨rfl, rfl⟩) | (go_at_call 43; (with_reducible refine (places_one _ _ _ _ G0.out (by simp [size_ext])).mono ?_); rintro e _ ⟨A', n', c', S', rfl, ho, hs, u2, rfl⟩; have HO := hide ho; have HS := hide hs; clear ho hs))
  go_ret
  exact retSl_of (by rw [writesP, if_pos h32]) HO.out HS.out (by simp [size_ext]; omega) (by repeat (first | exact Below.refl _ _ | assumption | exact Hd.out (by assumption) | refine Below.alloc ?_ (by first | omega | (simp [size_ext]; try omega)) _ | refine Below.ext ?_ (by first | omega | (simp [size_ext]; try omega)) _ | refine Below.drew ?_ | refine Below.setCell ?_ (by first | omega | (simp [size_ext]; try omega)) _))
set_option maxHeartbeats 400000 in
theorem writesP_dst (w : World) (m : Machine) (A1 A2 : Option Addr) (n1 c1 n2 c2 : Nat) (i : Ins) (A : Option Addr) (n c : Nat) (h32 : bt (hasP i.op) 32 = false) (h1 : bt (hasP i.op) 1 = true) (id : InI i.dst) :
    Calls Try.prog 21 #[.agg #[.int .i64 m.regs, .slice A1 n1 c1, .int .i64 m.ret, .slice A2 n2 c2], .agg #[.int .i64 i.op, .int .i64 i.dst, .int .i64 i.a, .int .i64 i.b, .int .i64 i.imm, .int .i64 i.callee, .slice A n c, .int .i64 i.many]] w (RetSl (writesP m i) w) := by
  have G0 := hide id; clear id
  go_enter Try.func21, Try.ntmps21
  go_wp2_with (first | (go_at_call 44; refine (has_any _ _).mono ?_; rintro e _ ⟨rfl, ux, rfl⟩) | (go_at_call 45; (with_reducible refine (withb_eq _ 32 _ h32).mono ?_); rintro e w' ⟨rfl, rfl⟩) | (go_at_call 45; (with_reducible refine (withb_eq _ 1 _ h1).mono ?_); rintro e w' ⟨rfl, rfl⟩) | (go_at_call 43; (with_reducible refine (places_one _ _ _ _ G0.out (by simp [size_ext])).mono ?_); rintro e _ ⟨A', n', c', S', rfl, ho, hs, u2, rfl⟩; have HO := hide ho; have HS := hide hs; clear ho hs))
  go_ret
  exact retSl_of (by rw [writesP, if_neg (by rw [h32]; decide), if_pos h1]) HO.out HS.out (by simp [size_ext]; omega) (by repeat (first | exact Below.refl _ _ | assumption | exact Hd.out (by assumption) | refine Below.alloc ?_ (by first | omega | (simp [size_ext]; try omega)) _ | refine Below.ext ?_ (by first | omega | (simp [size_ext]; try omega)) _ | refine Below.drew ?_ | refine Below.setCell ?_ (by first | omega | (simp [size_ext]; try omega)) _))
set_option maxHeartbeats 400000 in
theorem writesP_slot (w : World) (m : Machine) (A1 A2 : Option Addr) (n1 c1 n2 c2 : Nat) (i : Ins) (A : Option Addr) (n c : Nat) (h32 : bt (hasP i.op) 32 = false) (h1 : bt (hasP i.op) 1 = false) (h16 : bt (hasP i.op) 16 = true) (ii : InI i.imm) :
    Calls Try.prog 21 #[.agg #[.int .i64 m.regs, .slice A1 n1 c1, .int .i64 m.ret, .slice A2 n2 c2], .agg #[.int .i64 i.op, .int .i64 i.dst, .int .i64 i.a, .int .i64 i.b, .int .i64 i.imm, .int .i64 i.callee, .slice A n c, .int .i64 i.many]] w (RetSl (writesP m i) w) := by
  have G0 := hide ii; clear ii
  go_enter Try.func21, Try.ntmps21
  go_wp2_with (first | (go_at_call 44; refine (has_any _ _).mono ?_; rintro e _ ⟨rfl, ux, rfl⟩) | (go_at_call 45; (with_reducible refine (withb_eq _ 32 _ h32).mono ?_); rintro e w' ⟨rfl, rfl⟩) | (go_at_call 45; (with_reducible refine (withb_eq _ 1 _ h1).mono ?_); rintro e w' ⟨rfl, rfl⟩) | (go_at_call 45; (with_reducible refine (withb_eq _ 16 _ h16).mono ?_); rintro e w' ⟨rfl, rfl⟩))
  go_ret
  exact retSl_loc (x := ⟨true, i.imm⟩) (by rw [writesP, if_neg (by rw [h32]; decide), if_neg (by rw [h1]; decide), if_pos h16]) G0.out (by simp [size_ext]) (by simp [size_ext]; omega) (by repeat (first | exact Below.refl _ _ | assumption | exact Hd.out (by assumption) | refine Below.alloc ?_ (by first | omega | (simp [size_ext]; try omega)) _ | refine Below.ext ?_ (by first | omega | (simp [size_ext]; try omega)) _ | refine Below.drew ?_ | refine Below.setCell ?_ (by first | omega | (simp [size_ext]; try omega)) _))
set_option maxHeartbeats 400000 in
theorem writesP_none (w : World) (m : Machine) (A1 A2 : Option Addr) (n1 c1 n2 c2 : Nat) (i : Ins) (A : Option Addr) (n c : Nat) (h32 : bt (hasP i.op) 32 = false) (h1 : bt (hasP i.op) 1 = false) (h16 : bt (hasP i.op) 16 = false)  :
    Calls Try.prog 21 #[.agg #[.int .i64 m.regs, .slice A1 n1 c1, .int .i64 m.ret, .slice A2 n2 c2], .agg #[.int .i64 i.op, .int .i64 i.dst, .int .i64 i.a, .int .i64 i.b, .int .i64 i.imm, .int .i64 i.callee, .slice A n c, .int .i64 i.many]] w (RetSl (writesP m i) w) := by
  go_enter Try.func21, Try.ntmps21
  go_wp2_with (first | (go_at_call 44; refine (has_any _ _).mono ?_; rintro e _ ⟨rfl, ux, rfl⟩) | (go_at_call 45; (with_reducible refine (withb_eq _ 32 _ h32).mono ?_); rintro e w' ⟨rfl, rfl⟩) | (go_at_call 45; (with_reducible refine (withb_eq _ 1 _ h1).mono ?_); rintro e w' ⟨rfl, rfl⟩) | (go_at_call 45; (with_reducible refine (withb_eq _ 16 _ h16).mono ?_); rintro e w' ⟨rfl, rfl⟩))
  go_ret
  exact retSl_nil (by rw [writesP, if_neg (by rw [h32]; decide), if_neg (by rw [h1]; decide), if_neg (by rw [h16]; decide)]) (by repeat (first | exact Below.refl _ _ | assumption | exact Hd.out (by assumption) | refine Below.alloc ?_ (by first | omega | (simp [size_ext]; try omega)) _ | refine Below.ext ?_ (by first | omega | (simp [size_ext]; try omega)) _ | refine Below.drew ?_ | refine Below.setCell ?_ (by first | omega | (simp [size_ext]; try omega)) _))
theorem reads_any (w : World) (S1 : Nat → Prop) (m : Machine) (A1 A2 : Option Addr) (n1 c1 n2 c2 : Nat) (s1 : Sl w S1 A1 n1 c1 m.args) (hn : n1 ≤ 1048576) (i : Ins) (A : Option Addr) (n c : Nat) (ia : InI i.a) (ib : InI i.b) (ii : InI i.imm) :
    Calls Try.prog 20 #[.agg #[.int .i64 m.regs, .slice A1 n1 c1, .int .i64 m.ret, .slice A2 n2 c2], .agg #[.int .i64 i.op, .int .i64 i.dst, .int .i64 i.a, .int .i64 i.b, .int .i64 i.imm, .int .i64 i.callee, .slice A n c, .int .i64 i.many]] w (RetSl (readsP m i) w) := by
  cases h32 : bt (hasP i.op) 32
  · cases h4 : bt (hasP i.op) 4
    · cases h2 : bt (hasP i.op) 2
      · cases h16 : bt (hasP i.op) 16
        · exact readsP_none w m A1 A2 n1 c1 n2 c2 i A n c h32 h4 h2 h16
        · exact readsP_slot w m A1 A2 n1 c1 n2 c2 i A n c h32 h4 h2 h16 ii
      · exact readsP_one w m A1 A2 n1 c1 n2 c2 i A n c h32 h4 h2 ia
    · exact readsP_two w m A1 A2 n1 c1 n2 c2 i A n c h32 h4 ia ib
  · exact readsP_call w S1 m A1 A2 n1 c1 n2 c2 s1 hn i A n c h32
theorem writes_any (w : World) (m : Machine) (A1 A2 : Option Addr) (n1 c1 n2 c2 : Nat) (i : Ins) (A : Option Addr) (n c : Nat) (ir : InI m.ret) (id : InI i.dst) (ii : InI i.imm) :
    Calls Try.prog 21 #[.agg #[.int .i64 m.regs, .slice A1 n1 c1, .int .i64 m.ret, .slice A2 n2 c2], .agg #[.int .i64 i.op, .int .i64 i.dst, .int .i64 i.a, .int .i64 i.b, .int .i64 i.imm, .int .i64 i.callee, .slice A n c, .int .i64 i.many]] w (RetSl (writesP m i) w) := by
  cases h32 : bt (hasP i.op) 32
  · cases h1 : bt (hasP i.op) 1
    · cases h16 : bt (hasP i.op) 16
      · exact writesP_none w m A1 A2 n1 c1 n2 c2 i A n c h32 h1 h16
      · exact writesP_slot w m A1 A2 n1 c1 n2 c2 i A n c h32 h1 h16 ii
    · exact writesP_dst w m A1 A2 n1 c1 n2 c2 i A n c h32 h1 id
  · exact writesP_call w m A1 A2 n1 c1 n2 c2 i A n c h32 ir
set_option maxHeartbeats 400000 in
theorem needs_any (w : World) (t : Term) (ia : InI t.a) : Calls Try.prog 19 #[.agg #[.int .i64 t.kind, .int .i64 t.a, .int .i64 t.to0, .int .i64 t.to1]] w (RetSl (needsP t) w) := by
  have G0 := hide ia; clear ia
  by_cases h2 : t.kind = 2
  · have b3 : (t.kind == 3) = false := by simp [h2]
    have b2 : (t.kind == 2) = true := by simp [h2]
    have HN : Hd (needsP t = [⟨false, t.a⟩]) := hide (by rw [needsP, if_pos (.inl h2)])
    clear h2
    go_enter Try.func19, Try.ntmps19
    go_wp2_with (go_at_call 43; (with_reducible refine (places_one _ _ _ _ G0.out (by simp [size_ext])).mono ?_); rintro e _ ⟨A', n', c', S', rfl, ho, hs, u2, rfl⟩; have HO := hide ho; have HS := hide hs; clear ho hs)
    go_ret
    exact retSl_of HN.out HO.out HS.out (by simp [size_ext]; omega) (by repeat (first | exact Below.refl _ _ | assumption | exact Hd.out (by assumption) | refine Below.alloc ?_ (by first | omega | (simp [size_ext]; try omega)) _ | refine Below.ext ?_ (by first | omega | (simp [size_ext]; try omega)) _ | refine Below.drew ?_ | refine Below.setCell ?_ (by first | omega | (simp [size_ext]; try omega)) _))
  · have b2 : (t.kind == 2) = false := by simp [h2]
    by_cases h3 : t.kind = 3
    · have b3 : (t.kind == 3) = true := by simp [h3]
      by_cases h1 : t.a = -1
      · have ba : (t.a != -1) = false := by simp [h1]
        have HN : Hd (needsP t = []) := hide (by rw [needsP, if_neg (by rintro (h | h); exact h2 h; exact h.2 h1)])
        clear h1 h2 h3
        go_enter Try.func19, Try.ntmps19
        go_wp2_with (go_at_call 43; (with_reducible refine (places_one _ _ _ _ G0.out (by simp [size_ext])).mono ?_); rintro e _ ⟨A', n', c', S', rfl, ho, hs, u2, rfl⟩; have HO := hide ho; have HS := hide hs; clear ho hs)
        go_ret
        exact retSl_nil HN.out (by repeat (first | exact Below.refl _ _ | assumption | exact Hd.out (by assumption) | refine Below.alloc ?_ (by first | omega | (simp [size_ext]; try omega)) _ | refine Below.ext ?_ (by first | omega | (simp [size_ext]; try omega)) _ | refine Below.drew ?_ | refine Below.setCell ?_ (by first | omega | (simp [size_ext]; try omega)) _))
      · have ba : (t.a != -1) = true := by simp [h1]
        have HN : Hd (needsP t = [⟨false, t.a⟩]) := hide (by rw [needsP, if_pos (.inr ⟨h3, h1⟩)])
        clear h1 h2 h3
        go_enter Try.func19, Try.ntmps19
        go_wp2_with (go_at_call 43; (with_reducible refine (places_one _ _ _ _ G0.out (by simp [size_ext])).mono ?_); rintro e _ ⟨A', n', c', S', rfl, ho, hs, u2, rfl⟩; have HO := hide ho; have HS := hide hs; clear ho hs)
        go_ret
        exact retSl_of HN.out HO.out HS.out (by simp [size_ext]; omega) (by repeat (first | exact Below.refl _ _ | assumption | exact Hd.out (by assumption) | refine Below.alloc ?_ (by first | omega | (simp [size_ext]; try omega)) _ | refine Below.ext ?_ (by first | omega | (simp [size_ext]; try omega)) _ | refine Below.drew ?_ | refine Below.setCell ?_ (by first | omega | (simp [size_ext]; try omega)) _))
    · have b3 : (t.kind == 3) = false := by simp [h3]
      have HN : Hd (needsP t = []) := hide (by rw [needsP, if_neg (by rintro (h | h); exact h2 h; exact h3 h.1)])
      clear h2 h3
      go_enter Try.func19, Try.ntmps19
      go_wp2_with (go_at_call 43; (with_reducible refine (places_one _ _ _ _ G0.out (by simp [size_ext])).mono ?_); rintro e _ ⟨A', n', c', S', rfl, ho, hs, u2, rfl⟩; have HO := hide ho; have HS := hide hs; clear ho hs)
      go_ret
      exact retSl_nil HN.out (by repeat (first | exact Below.refl _ _ | assumption | exact Hd.out (by assumption) | refine Below.alloc ?_ (by first | omega | (simp [size_ext]; try omega)) _ | refine Below.ext ?_ (by first | omega | (simp [size_ext]; try omega)) _ | refine Below.drew ?_ | refine Below.setCell ?_ (by first | omega | (simp [size_ext]; try omega)) _))
end Go.Proofs.Ytkjipgelbjaggaa
