/- Walk: what an instruction reads is a slice of the call's own. -/
import Derived.Test.YtkjipgelbjaggaaM42
set_option linter.unusedSimpArgs false
set_option linter.unusedVariables false
namespace Go.Proofs.Ytkjipgelbjaggaa
open Go.RowKit Go.Maps
theorem RepL.locs_more {w w' : World} {S S' : Nat → Prop} {xs : List Loc} {us : List Value} (h : RepL w S xs us) : RepL w' S' xs us := by
  induction xs generalizing us with
  | nil => exact h
  | cons x l ih =>
    obtain ⟨us, ts, rfl, h1, h2⟩ := h
    obtain ⟨rfl, g⟩ := Loc.open_ h1
    exact ⟨_, ts, rfl, Loc.mk_ g, ih h2⟩
theorem OwnL.locs {w : World} {base : Nat} {T : TypeId} {S : Nat → Prop} {v : Value} {xs : List Loc} (h : OwnL w base T S v xs) : OwnL w base T (fun _ => False) v xs := by
  obtain ⟨vals, h1, h2, _⟩ := h
  exact ⟨vals, h1, RepL.locs_more h2, fun _ _ h => h⟩
theorem retO_of {w W W' : World} {T : TypeId} {S : Nat → Prop} {A : Option Addr} {n c : Nat} {xs ys : List Loc} (he : ys = xs) (ho : OwnL W' W.heap.size T S (.slice A n c) xs) (_hS : ∀ b, S b → W.heap.size ≤ b ∧ b < W'.heap.size)
    (hw : w.heap.size ≤ W.heap.size) (hb : Below w.heap.size w W') : RetO T ys w (.returned (.slice A n c)) W' :=
  ⟨A, n, c, fun _ => False, rfl, by rw [he]; exact ho.locs.base_le hw, fun _ h => h.elim, Below.to_ext hb⟩
theorem retO_loc {w W : World} {T : TypeId} {g : Nat} {x : Loc} {ys : List Loc} (he : ys = [x]) (hx : InI x.n) (hg : g = W.heap.size) (hw : w.heap.size ≤ W.heap.size) (hb : Below w.heap.size w W) :
    RetO T ys w (.returned (.slice (some ⟨g, 0, none⟩) 1 1)) (W.alloc (.cells #[.bool x.slot, .int .i64 x.n] T)) := by
  subst hg he
  exact ⟨_, _, _, fun _ => False, rfl, OwnL.of_block (cur := #[.bool x.slot, .int .i64 x.n]) rfl (Nat.le_refl _) (by decide) hw (fun h => h) (heap_alloc_new W _) (by simp [Rep.size]) (RepL.single (Loc.mk_ hx)), fun _ h => h.elim, Below.to_ext (hb.alloc hw _)⟩
theorem retO_nil {w W : World} {T : TypeId} {ys : List Loc} (he : ys = []) (hb : Below w.heap.size w W) : RetO T ys w (.returned (.slice none 0 0)) W :=
  ⟨_, _, _, fun _ => False, rfl, by rw [he]; exact OwnL.nil_ _ _ _ _, fun _ h => h.elim, Below.to_ext hb⟩
set_option maxHeartbeats 400000 in
theorem readsP_call_own (w : World) (S1 : Nat → Prop) (m : Machine) (A1 A2 : Option Addr) (n1 c1 n2 c2 : Nat) (h1 : Sl w S1 A1 n1 c1 m.args) (hn : n1 ≤ 1048576) (i : Ins) (A : Option Addr) (n c : Nat) (c32 : bt (hasP i.op) 32 = true) :
    Calls Try.prog 20 #[.agg #[.int .i64 m.regs, .slice A1 n1 c1, .int .i64 m.ret, .slice A2 n2 c2], .agg #[.int .i64 i.op, .int .i64 i.dst, .int .i64 i.a, .int .i64 i.b, .int .i64 i.imm, .int .i64 i.callee, .slice A n c, .int .i64 i.many]] w (RetO 70 (readsP m i) w) := by
  have H1 := hide h1
  have hle : n1 ≤ c1 := h1.2.1
  clear h1
  go_enter Try.func20, Try.ntmps20
  go_wp2_with (first | (go_at_call 44; refine (has_any _ _).mono ?_; rintro e _ ⟨rfl, ux, rfl⟩) | (go_at_call 45; (with_reducible refine (withb_eq _ 32 _ c32).mono ?_); rintro e w' ⟨rfl, rfl⟩))
  all_goals
    refine (places_any _ S1 A1 _ c1 (m.args.take _) (Sl.take_ (((H1.out.alloc _).alloc _).ext ux) (by omega)) (by omega)).mono ?_
    rintro e _ ⟨A', n', c', S', rfl, ho, hs, u2, rfl⟩
    have HO := hide ho; have HS := hide hs
    clear ho hs
    go_wp2
    go_ret
    refine retO_of (readsP_call_eq c32 ?_) HO.out HS.out (by simp [size_ext]; omega) (by repeat (first | exact Below.refl _ _ | assumption | exact Hd.out (by assumption) | refine Below.alloc ?_ (by first | omega | (simp [size_ext]; try omega)) _ | refine Below.ext ?_ (by first | omega | (simp [size_ext]; try omega)) _ | refine Below.drew ?_ | refine Below.setCell ?_ (by first | omega | (simp [size_ext]; try omega)) _))
    have hl := H1.out.len
    unfold manyN; rw [hl]; omega
set_option maxHeartbeats 400000 in
theorem readsP_two_own (w : World) (m : Machine) (A1 A2 : Option Addr) (n1 c1 n2 c2 : Nat) (i : Ins) (A : Option Addr) (n c : Nat) (h32 : bt (hasP i.op) 32 = false) (h4 : bt (hasP i.op) 4 = true) (ia : InI i.a) (ib : InI i.b) :
    Calls Try.prog 20 #[.agg #[.int .i64 m.regs, .slice A1 n1 c1, .int .i64 m.ret, .slice A2 n2 c2], .agg #[.int .i64 i.op, .int .i64 i.dst, .int .i64 i.a, .int .i64 i.b, .int .i64 i.imm, .int .i64 i.callee, .slice A n c, .int .i64 i.many]] w (RetO 70 (readsP m i) w) := by
  have G0 := hide ia; clear ia
  have G1 := hide ib; clear ib
  go_enter Try.func20, Try.ntmps20
  go_wp2_with (first | (go_at_call 44; refine (has_any _ _).mono ?_; rintro e _ ⟨rfl, ux, rfl⟩) | (go_at_call 45; (with_reducible refine (withb_eq _ 32 _ h32).mono ?_); rintro e w' ⟨rfl, rfl⟩) | (go_at_call 45; (with_reducible refine (withb_eq _ 4 _ h4).mono ?_); rintro e w' ⟨rfl, rfl⟩) | (go_at_call 43; (with_reducible refine (places_two _ _ _ _ _ G0.out G1.out (by simp [size_ext])).mono ?_); rintro e _ ⟨A', n', c', S', rfl, ho, hs, u2, rfl⟩; have HO := hide ho; have HS := hide hs; clear ho hs))
  go_ret
  exact retO_of (by rw [readsP, if_neg (by rw [h32]; decide), if_pos h4]) HO.out HS.out (by simp [size_ext]; omega) (by repeat (first | exact Below.refl _ _ | assumption | exact Hd.out (by assumption) | refine Below.alloc ?_ (by first | omega | (simp [size_ext]; try omega)) _ | refine Below.ext ?_ (by first | omega | (simp [size_ext]; try omega)) _ | refine Below.drew ?_ | refine Below.setCell ?_ (by first | omega | (simp [size_ext]; try omega)) _))
set_option maxHeartbeats 400000 in
theorem readsP_one_own (w : World) (m : Machine) (A1 A2 : Option Addr) (n1 c1 n2 c2 : Nat) (i : Ins) (A : Option Addr) (n c : Nat) (h32 : bt (hasP i.op) 32 = false) (h4 : bt (hasP i.op) 4 = false) (h2 : bt (hasP i.op) 2 = true) (ia : InI i.a) :
    Calls Try.prog 20 #[.agg #[.int .i64 m.regs, .slice A1 n1 c1, .int .i64 m.ret, .slice A2 n2 c2], .agg #[.int .i64 i.op, .int .i64 i.dst, .int .i64 i.a, .int .i64 i.b, .int .i64 i.imm, .int .i64 i.callee, .slice A n c, .int .i64 i.many]] w (RetO 70 (readsP m i) w) := by
  have G0 := hide ia; clear ia
  go_enter Try.func20, Try.ntmps20
  go_wp2_with (first | (go_at_call 44; refine (has_any _ _).mono ?_; rintro e _ ⟨rfl, ux, rfl⟩) | (go_at_call 45; (with_reducible refine (withb_eq _ 32 _ h32).mono ?_); rintro e w' ⟨rfl, rfl⟩) | (go_at_call 45; (with_reducible refine (withb_eq _ 4 _ h4).mono ?_); rintro e w' ⟨rfl, rfl⟩) | (go_at_call 45; (with_reducible refine (withb_eq _ 2 _ h2).mono ?_); rintro e w' ⟨rfl, rfl⟩) | (go_at_call 43; (with_reducible refine (places_one _ _ _ _ G0.out (by simp [size_ext])).mono ?_); rintro e _ ⟨A', n', c', S', rfl, ho, hs, u2, rfl⟩; have HO := hide ho; have HS := hide hs; clear ho hs))
  go_ret
  exact retO_of (by rw [readsP, if_neg (by rw [h32]; decide), if_neg (by rw [h4]; decide), if_pos h2]) HO.out HS.out (by simp [size_ext]; omega) (by repeat (first | exact Below.refl _ _ | assumption | exact Hd.out (by assumption) | refine Below.alloc ?_ (by first | omega | (simp [size_ext]; try omega)) _ | refine Below.ext ?_ (by first | omega | (simp [size_ext]; try omega)) _ | refine Below.drew ?_ | refine Below.setCell ?_ (by first | omega | (simp [size_ext]; try omega)) _))
set_option maxHeartbeats 400000 in
theorem readsP_slot_own (w : World) (m : Machine) (A1 A2 : Option Addr) (n1 c1 n2 c2 : Nat) (i : Ins) (A : Option Addr) (n c : Nat) (h32 : bt (hasP i.op) 32 = false) (h4 : bt (hasP i.op) 4 = false) (h2 : bt (hasP i.op) 2 = false) (h16 : bt (hasP i.op) 16 = true) (ii : InI i.imm) :
    Calls Try.prog 20 #[.agg #[.int .i64 m.regs, .slice A1 n1 c1, .int .i64 m.ret, .slice A2 n2 c2], .agg #[.int .i64 i.op, .int .i64 i.dst, .int .i64 i.a, .int .i64 i.b, .int .i64 i.imm, .int .i64 i.callee, .slice A n c, .int .i64 i.many]] w (RetO 70 (readsP m i) w) := by
  have G0 := hide ii; clear ii
  go_enter Try.func20, Try.ntmps20
  go_wp2_with (first | (go_at_call 44; refine (has_any _ _).mono ?_; rintro e _ ⟨rfl, ux, rfl⟩) | (go_at_call 45; (with_reducible refine (withb_eq _ 32 _ h32).mono ?_); rintro e w' ⟨rfl, rfl⟩) | (go_at_call 45; (with_reducible refine (withb_eq _ 4 _ h4).mono ?_); rintro e w' ⟨rfl, rfl⟩) | (go_at_call 45; (with_reducible refine (withb_eq _ 2 _ h2).mono ?_); rintro e w' ⟨rfl, rfl⟩) | (go_at_call 45; (with_reducible refine (withb_eq _ 16 _ h16).mono ?_); rintro e w' ⟨rfl, rfl⟩))
  go_ret
  exact retO_loc (x := ⟨true, i.imm⟩) (by rw [readsP, if_neg (by rw [h32]; decide), if_neg (by rw [h4]; decide), if_neg (by rw [h2]; decide), if_pos h16]) G0.out (by simp [size_ext]) (by simp [size_ext]; omega) (by repeat (first | exact Below.refl _ _ | assumption | exact Hd.out (by assumption) | refine Below.alloc ?_ (by first | omega | (simp [size_ext]; try omega)) _ | refine Below.ext ?_ (by first | omega | (simp [size_ext]; try omega)) _ | refine Below.drew ?_ | refine Below.setCell ?_ (by first | omega | (simp [size_ext]; try omega)) _))
set_option maxHeartbeats 400000 in
theorem readsP_none_own (w : World) (m : Machine) (A1 A2 : Option Addr) (n1 c1 n2 c2 : Nat) (i : Ins) (A : Option Addr) (n c : Nat) (h32 : bt (hasP i.op) 32 = false) (h4 : bt (hasP i.op) 4 = false) (h2 : bt (hasP i.op) 2 = false) (h16 : bt (hasP i.op) 16 = false)  :
    Calls Try.prog 20 #[.agg #[.int .i64 m.regs, .slice A1 n1 c1, .int .i64 m.ret, .slice A2 n2 c2], .agg #[.int .i64 i.op, .int .i64 i.dst, .int .i64 i.a, .int .i64 i.b, .int .i64 i.imm, .int .i64 i.callee, .slice A n c, .int .i64 i.many]] w (RetO 70 (readsP m i) w) := by
  go_enter Try.func20, Try.ntmps20
  go_wp2_with (first | (go_at_call 44; refine (has_any _ _).mono ?_; rintro e _ ⟨rfl, ux, rfl⟩) | (go_at_call 45; (with_reducible refine (withb_eq _ 32 _ h32).mono ?_); rintro e w' ⟨rfl, rfl⟩) | (go_at_call 45; (with_reducible refine (withb_eq _ 4 _ h4).mono ?_); rintro e w' ⟨rfl, rfl⟩) | (go_at_call 45; (with_reducible refine (withb_eq _ 2 _ h2).mono ?_); rintro e w' ⟨rfl, rfl⟩) | (go_at_call 45; (with_reducible refine (withb_eq _ 16 _ h16).mono ?_); rintro e w' ⟨rfl, rfl⟩))
  go_ret
  exact retO_nil (by rw [readsP, if_neg (by rw [h32]; decide), if_neg (by rw [h4]; decide), if_neg (by rw [h2]; decide), if_neg (by rw [h16]; decide)]) (by repeat (first | exact Below.refl _ _ | assumption | exact Hd.out (by assumption) | refine Below.alloc ?_ (by first | omega | (simp [size_ext]; try omega)) _ | refine Below.ext ?_ (by first | omega | (simp [size_ext]; try omega)) _ | refine Below.drew ?_ | refine Below.setCell ?_ (by first | omega | (simp [size_ext]; try omega)) _))
theorem reads_own (w : World) (S1 : Nat → Prop) (m : Machine) (A1 A2 : Option Addr) (n1 c1 n2 c2 : Nat) (s1 : Sl w S1 A1 n1 c1 m.args) (hn : n1 ≤ 1048576) (i : Ins) (A : Option Addr) (n c : Nat) (ia : InI i.a) (ib : InI i.b) (ii : InI i.imm) :
    Calls Try.prog 20 #[.agg #[.int .i64 m.regs, .slice A1 n1 c1, .int .i64 m.ret, .slice A2 n2 c2], .agg #[.int .i64 i.op, .int .i64 i.dst, .int .i64 i.a, .int .i64 i.b, .int .i64 i.imm, .int .i64 i.callee, .slice A n c, .int .i64 i.many]] w (RetO 70 (readsP m i) w) := by
  cases h32 : bt (hasP i.op) 32
  · cases h4 : bt (hasP i.op) 4
    · cases h2 : bt (hasP i.op) 2
      · cases h16 : bt (hasP i.op) 16
        · exact readsP_none_own w m A1 A2 n1 c1 n2 c2 i A n c h32 h4 h2 h16
        · exact readsP_slot_own w m A1 A2 n1 c1 n2 c2 i A n c h32 h4 h2 h16 ii
      · exact readsP_one_own w m A1 A2 n1 c1 n2 c2 i A n c h32 h4 h2 ia
    · exact readsP_two_own w m A1 A2 n1 c1 n2 c2 i A n c h32 h4 ia ib
  · exact readsP_call_own w S1 m A1 A2 n1 c1 n2 c2 s1 hn i A n c h32
end Go.Proofs.Ytkjipgelbjaggaa
