/- law24: walks: a part that is bound: the register of a variable; may a register be had? -/
import Derived.Test.YtbppamjogdjfkaaIT6
import Derived.Test.YtbppamjogdjfkaaND
import Derived.Deep.QuietTactic
import Derived.BigQuiet
set_option linter.unusedSimpArgs false
set_option linter.unusedVariables false
namespace Go.Proofs.Ytbppamjogdjfkaa
open Go.RowKit Go.Shelf Go.Maps

theorem zeroInt24 (w : World) : (zeroValue 3).run Try.prog w = .ok (.int .i64 0) w := by kernel_rfl
noncomputable def iK : KeyT Try.prog Int := intK 3 Try.underlying3
noncomputable def iE : ElT Try.prog Int := intE 3 Try.underlying3 zeroInt24
abbrev IMapI (w : World) (b n : Nat) (f : Int → Option Int) : Prop := MapP iK iE w b n f
/-- A part that is bound, in its box. -/
structure BdAt (W : World) (S : Nat → Prop) (g : Nat) (p : Part) (mr mh : Nat) (par : Option Nat) (N : Nat) (acc : List (Int × Int)) : Prop where
  row : ∃ A1 c1 A2 c2 A3 c3, W.heap[g]? = some (.cells #[.int .i64 p.parent, .slice A1 p.vars.length c1, .slice A2 p.colors.length c2, .slice A3 p.wish.length c3, .map (some mr), .map (some mh), .pointer (par.map fun b => ⟨b, 0, none⟩)] 48 (0, 0)) ∧
    Sl W S A1 p.vars.length c1 p.vars ∧ Sl W S A2 p.colors.length c2 p.colors ∧ Sl W S A3 p.wish.length c3 p.wish
  regs : IMapI W mr N fun c => acc.lookup c
section
variable {W W' : World} {S : Nat → Prop} {g : Nat} {p : Part} {mr mh : Nat} {par : Option Nat} {N : Nat} {acc : List (Int × Int)}
theorem BdAt.lt (h : BdAt W S g p mr mh par N acc) : g < W.heap.size := by obtain ⟨_, _, _, _, _, _, h, _⟩ := h.row; exact (Array.getElem?_eq_some_iff.1 h).1
theorem BdAt.keep (h : BdAt W S g p mr mh par N acc) (hs : W.heap.size ≤ W'.heap.size) (hg : W'.heap[g]? = W.heap[g]?) (hm : W'.heap[mr]? = W.heap[mr]?) (hS : ∀ b, S b → b < W.heap.size → W'.heap[b]? = W.heap[b]?) : BdAt W' S g p mr mh par N acc := by
  obtain ⟨A1, c1, A2, c2, A3, c3, hr, s1, s2, s3⟩ := h.row
  exact ⟨⟨A1, c1, A2, c2, A3, c3, hg.trans hr, s1.keep hs hS, s2.keep hs hS, s3.keep hs hS⟩, h.regs.keep hm⟩
theorem BdAt.belowAll (h : BdAt W S g p mr mh par N acc) (hb : Below W.heap.size W W') : BdAt W' S g p mr mh par N acc := h.keep hb.size (hb.block g h.lt) (hb.block mr h.regs.lt) fun b _ hl => hb.block b hl
end
theorem rise_count {v : Int} : ∀ {vs : List Int}, vs.Pairwise (· < ·) → v ∈ vs → vs[vs.countP (· < v)]? = some v
  | [], _, h => by simp at h
  | x :: vs, hp, h => by
    obtain ⟨h1, h2⟩ := List.pairwise_cons.1 hp
    rcases List.mem_cons.1 h with rfl | h
    · have : (v :: vs).countP (· < v) = 0 := by
        rw [List.countP_eq_zero]
        intro y hy
        rcases List.mem_cons.1 hy with rfl | hy
        · simp
        · have := h1 y hy; simp; omega
      rw [this]; rfl
    · have hx := h1 v h
      rw [List.countP_cons_of_pos (by simpa using hx), List.getElem?_cons_succ]
      exact rise_count h2 h
theorem search24 (w : World) (S : Nat → Prop) (A : Option Addr) (n c : Nat) (xs : List Int) (h : Sl w S A n c xs) (hs : xs.Pairwise (· < ·)) (hn : n ≤ 1048576) (v : Int) :
    Calls Try.prog 35 #[.slice A n c, .int .i64 v] w fun e w' => e = .returned (.tuple #[.int .i64 (xs.countP (· < v) : Nat), .bool (hasI v xs)]) ∧ ∃ u : Ext, w' = w.ext u := by
  have hl := h.len
  have hhas : xs.contains v = hasI v xs := by rw [Bool.eq_iff_iff, List.contains_iff_mem, hasI_iff]
  rcases Nat.eq_zero_or_pos n with h0 | h0
  · subst h0
    obtain rfl : xs = [] := List.eq_nil_of_length_eq_zero hl
    refine (Try.slices_BinarySearch_int_empty A c v w).mono ?_
    rintro e w' ⟨rfl, rfl⟩
    exact ⟨rfl, ext_refl w'⟩
  · obtain ⟨vs, hr, hc⟩ := h.cells_
    obtain ⟨rfl, _⟩ := RepL.ints_of hr
    obtain ⟨b, off, rfl, hb, hcc⟩ := hc h0
    have hcells : ∀ j, j < xs.length → w.cell? ⟨b, off + j, none⟩ = some (.int .i64 (xs.getD j 0)) := fun j hj => by
      refine hcc j _ ?_
      rw [List.getElem?_map, List.getElem?_eq_getElem hj]
      simp [List.getD_eq_getElem?_getD, hj]
    refine (Try.slices_BinarySearch_int b off n c xs v w (by omega) (by omega) hcells (by rw [List.take_of_length_le (by omega)]; exact hs.imp fun h => by omega)).mono ?_
    rintro e w' ⟨rfl, q, rfl⟩
    rw [List.take_of_length_le (by omega), hhas]
    exact ⟨rfl, ⟨⟨#[], w.drawn + q⟩, by show World.mk _ _ _ _ _ = World.mk _ _ _ _ _; simp⟩⟩
set_option maxRecDepth 100000 in
set_option maxHeartbeats 1000000 in
theorem regNil24 (w : World) (v : Int) : Calls Try.prog 21 #[.pointer none, .int .i64 v] w (RetX (.int .i64 (-1)) w) := by
  go_enter Try.func21, Try.ntmps21
  go_wp2_with fail
  go_ret
  exact RetX.i rfl (Below.refl _ _)
set_option maxRecDepth 100000 in
set_option maxHeartbeats 1000000 in
theorem reg24_any (w : World) (S : Nat → Prop) (g : Nat) (p : Part) (mr mh : Nat) (par : Option Nat) (N : Nat) (acc : List (Int × Int)) (h : BdAt w S g p mr mh par N acc) (hv : p.vars.Pairwise (· < ·)) (hl : p.colors.length = p.vars.length) (hn : p.vars.length ≤ 1048576) (hc : ∀ c ∈ p.colors, InI c) (v : Int) :
    Calls Try.prog 21 #[.pointer (some ⟨g, 0, none⟩), .int .i64 v] w (RetX (.int .i64 (regOf24 p.vars p.colors acc v)) w) := by
  obtain ⟨A1, c1, A2, c2, A3, c3, hrow, s1, s2, s3⟩ := h.row
  have hg := h.lt
  obtain ⟨n, hnn⟩ : ∃ n, p.vars.length = n := ⟨_, rfl⟩
  rw [hl, hnn] at hrow s2
  rw [hnn] at s1 hn
  have k1 : w.cell? ⟨g, 1, none⟩ = some (.slice A1 n c1) := cell_of_row w g _ _ _ (0, 0) hrow
  have k2 : w.cell? ⟨g, 2, none⟩ = some (.slice A2 n c2) := cell_of_row w g _ _ _ (0, 0) hrow
  have k4 : w.cell? ⟨g, 4, none⟩ = some (.map (some mr)) := cell_of_row w g _ _ _ (0, 0) hrow
  have HM := hide h.regs
  have H2 := hide s2
  have HSR := hide (search24 w S A1 n c1 p.vars s1 hv hn v)
  obtain ⟨k, hk⟩ : ∃ k, p.vars.countP (· < v) = k := ⟨_, rfl⟩
  rw [hk] at HSR
  cases hh : hasI v p.vars with
  | false =>
    rw [hh] at HSR
    have HR := hide (show regOf24 p.vars p.colors acc v = -1 from regOf_none24 acc v _ _ fun hm => by rw [(hasI_iff _ _).2 hm] at hh; cases hh)
    rw [HR.out]
    clear h hrow s1 s2 s3 hh hk HR hnn
    go_enter Try.func21, Try.ntmps21
    go_wp2_with (go_at_call 35; (with_reducible refine HSR.out.mono ?_); rintro e _ ⟨rfl, u1, rfl⟩)
    go_ret
    exact RetX.i rfl (by repeat (first | exact Below.refl _ _ | assumption | refine Below.alloc ?_ (by simp [size_ext]; try omega) _ | refine Below.ext ?_ (by simp [size_ext]; try omega) _ | refine Below.drew ?_ | refine Below.setCell ?_ (by simp [size_ext]; try omega) _))
  | true =>
    rw [hh] at HSR
    have hvk := rise_count hv ((hasI_iff _ _).1 hh)
    rw [hk] at hvk
    have hkn : k < n := by rw [← hnn]; exact (List.getElem?_eq_some_iff.1 hvk).1
    obtain ⟨b, off, c, rfl, hb, hcc, hci, d1⟩ := at_int H2.out hkn
    have HR := hide (regOf_at24 acc _ _ k v c hv hvk hcc)
    clear h hrow s1 s2 s3 hh hk hnn hvk hcc
    by_cases hneg : c < 0
    · rw [show regOf24 p.vars p.colors acc v = -1 by rw [HR.out, if_pos hneg]]
      go_enter Try.func21, Try.ntmps21
      go_wp2_with (go_at_call 35; (with_reducible refine HSR.out.mono ?_); rintro e _ ⟨rfl, u1, rfl⟩)
      go_ret
      exact RetX.i rfl (by repeat (first | exact Below.refl _ _ | assumption | refine Below.alloc ?_ (by simp [size_ext]; try omega) _ | refine Below.ext ?_ (by simp [size_ext]; try omega) _ | refine Below.drew ?_ | refine Below.setCell ?_ (by simp [size_ext]; try omega) _))
    · rw [show regOf24 p.vars p.colors acc v = look24 acc c by rw [HR.out, if_neg hneg]]
      have HCI := hide hci
      go_enter Try.func21, Try.ntmps21
      go_wp2_with (go_at_call 35; (with_reducible refine HSR.out.mono ?_); rintro e _ ⟨rfl, u1, rfl⟩)
      obtain ⟨W1, hW1⟩ : ∃ W1, w.ext u1 = W1 := ⟨_, rfl⟩
      have x1 : W1.cell? ⟨g, 1, none⟩ = some (.slice A1 n c1) := by rw [← hW1]; exact (cell?_ext w u1 _ hg).trans k1
      have x2 : W1.cell? ⟨g, 2, none⟩ = some (.slice (some ⟨b, off, none⟩) n c2) := by rw [← hW1]; exact (cell?_ext w u1 _ hg).trans k2
      have x4 : W1.cell? ⟨g, 4, none⟩ = some (.map (some mr)) := by rw [← hW1]; exact (cell?_ext w u1 _ hg).trans k4
      have x5 : W1.cell? ⟨b, off + k, none⟩ = some (.int .i64 c) := by rw [← hW1]; exact (cell?_ext w u1 _ hb).trans d1
      have xg : g < W1.heap.size := by rw [← hW1, size_ext]; omega
      have xb : b < W1.heap.size := by rw [← hW1, size_ext]; omega
      have hq : ∀ u : Ext, (Instr.lookup 46 (.map (some mr)) (.int .i64 c) false).run Try.prog (W1.ext u) = .ok (.int .i64 (look24 acc c)) (W1.ext u) := fun u => by
        rw [← hW1]
        exact MapP.get (K := iK) (E := iE) ((HM.out.ext u1).ext u) Try.underlying46 (x := c) HCI.out
      have HBW := hide (show Below w.heap.size w W1 by rw [← hW1]; exact (Below.refl _ _).ext (Nat.le_refl _) _)
      rw [hW1]
      clear hW1 k1 k2 k4 d1
      refine wp_region_ext (by kernel_rfl) (by kernel_rfl) ?_
      repeat (any_goals (first | go_big_quiet_step ((fail)) | quiet_step ((fail))))
      refine wpQuiet_nil ?_
      rintro _ ⟨uq, rfl⟩
      go_wp2_with fail
      go_ret
      exact RetX.i rfl (HBW.out.ext HBW.out.size _)
set_option maxRecDepth 100000 in
set_option maxHeartbeats 1000000 in
/-- may a register be had? -/
theorem can24_any (w : World) (Bx g mh N : Nat) (f : Int → Option Int) (hb : w.cell? ⟨Bx, 0, none⟩ = some (.pointer (some ⟨g, 0, none⟩))) (hbl : Bx < w.heap.size) (k5 : w.cell? ⟨g, 5, none⟩ = some (.map (some mh))) (hg : g < w.heap.size) (hm : IMapI w mh N f) (r : Int) (hr : InI r) :
    Calls Try.prog 32 #[.int .i64 r, .pointer (some ⟨Bx, 0, none⟩)] w (Ret (.bool (decide ((f r).getD 0 = 0))) w) := by
  have hq : (Instr.lookup 46 (.map (some mh)) (.int .i64 r) false).run Try.prog w = .ok (.int .i64 ((f r).getD 0)) w := MapP.get (K := iK) (E := iE) hm Try.underlying46 (x := r) hr
  obtain ⟨y, hy⟩ : ∃ y, (f r).getD 0 = y := ⟨_, rfl⟩
  rw [hy] at hq ⊢
  clear hm hy
  go_enter Try.func32, Try.ntmps32
  go_wp2_with fail
  go_ret
  exact Ret.b (by rw [Bool.eq_iff_iff]; simp)
set_option maxHeartbeats 1000000 in
theorem wishes_in (n : Nat) (g : Nat) (color : Int) (w : World) :
    CallsIn Fence.wide n Try.prog 33 #[.pointer (some ⟨g, 0, none⟩), .int .i64 color] w fun e w' => e = .returned (.func (.func 44) #[] #[.pointer (some ⟨w.heap.size, 0, none⟩), .pointer (some ⟨w.heap.size + 1, 0, none⟩)]) ∧ w' = (w.alloc (.cells #[.pointer (some ⟨g, 0, none⟩)] 45)).alloc (.cells #[.int .i64 color] 3) := by
  refine callsIn_of_wp Try.func33 rfl trivial ?_ rfl
  simp only [Try.ntmps33, List.size_toArray, List.length_cons, List.length_nil, Nat.reduceAdd, Nat.reduceSub, Array.replicate_succ, Array.replicate_zero, List.push_toArray, List.append_toArray, List.nil_append, List.cons_append]
  gi_wp2
  go_ret
  exact ⟨rfl, rfl⟩
theorem indexInts_any (w : World) (S : Nat → Prop) (A : Option Addr) (n c : Nat) (xs : List Int) (f : Int → Bool) (fn : FuncId) (caps : Array Value) (h : Sl w S A n c xs)
    (hfn : ∀ (vs : Array Value) (w : World), (callFunc fn vs).run Try.prog w = .ok (.enter fn vs) w) (hf : ∀ (x : Int) (u : Ext), InI x → Calls Try.prog fn (#[.int .i64 x] ++ caps) (w.ext u) (RetX (.bool (f x)) (w.ext u))) :
    Calls Try.prog 34 #[.slice A n c, .func (.func fn) #[] caps] w (RetX (.int .i64 (idxF f 0 xs)) w) := by
  have hn := h.nle
  have HL := hide h.len
  have HS := hide h; have HF := hide hf
  clear h hf
  go_enter Try.func34, Try.ntmps34
  go_wp2
  go_loopw [8] (fun i wr => ∃ k : Nat, k ≤ n ∧ i = .int .i64 k ∧ idxF f 0 xs = idxF f k (xs.drop k) ∧ ∃ u, wr = w.ext u) (fun i _ => n - (Go.RowKit.intOf i).toNat)
  case atStart => exact ⟨0, Nat.zero_le _, rfl, rfl, ext_refl _⟩
  case round =>
    obtain ⟨k, hk, rfl, hr, u, rfl⟩ := hrel
    have HR := hide hr; clear hr
    by_cases hlt : k < n
    · obtain ⟨b, off, x, rfl, hb, hx, hxi, c0⟩ := at_int HS.out hlt
      have HX := hide (drop_at hx); clear hx
      by_cases hv : f x = true
      · have HV := hide hv; clear hv
        go_wp2_with (refine (HF.out x _ hxi).mono ?_; rintro e _ ⟨rfl, ux, rfl⟩; rw [HV.out])
        go_ret
        exact RetX.i (by rw [HR.out, HX.out]; simp [idxF, HV.out]) (by repeat (first | exact Below.refl _ _ | assumption | refine Below.alloc ?_ (by simp [size_ext]; try omega) _ | refine Below.ext ?_ (by simp [size_ext]; try omega) _ | refine Below.drew ?_ | refine Below.setCell ?_ (by simp [size_ext]; try omega) _))
      · have HV := hide (show f x = false by simpa using hv); clear hv
        go_wp2_with (refine (HF.out x _ hxi).mono ?_; rintro e _ ⟨rfl, ux, rfl⟩; rw [HV.out])
        go_roundw
        case rel => exact ⟨k + 1, by omega, by go_num, by rw [HR.out, HX.out]; simp [idxF, HV.out], Below.to_ext (by repeat (first | exact Below.refl _ _ | assumption | refine Below.alloc ?_ (by simp [size_ext]; try omega) _ | refine Below.ext ?_ (by simp [size_ext]; try omega) _ | refine Below.drew ?_ | refine Below.setCell ?_ (by simp [size_ext]; try omega) _))⟩
        case measure => simp [Go.RowKit.intOf]; omega
    · go_wp2
      go_ret
      exact RetX.i (by rw [HR.out, drop_end HL.out hlt]; rfl) (by repeat (first | exact Below.refl _ _ | assumption | refine Below.alloc ?_ (by simp [size_ext]; try omega) _ | refine Below.ext ?_ (by simp [size_ext]; try omega) _ | refine Below.drew ?_ | refine Below.setCell ?_ (by simp [size_ext]; try omega) _))
end Go.Proofs.Ytbppamjogdjfkaa
