/- A text of spaces tells no machine. A row of bytes that is filled with spaces, and what it reads as. MachEnds: its walk. -/
import Derived.Test.YtcfimcghckjmeaaGreatDoorH2
import Derived.Test.YtcfimcghckjmeaaGreatDoorG15
import Derived.Test.YtcfimcghckjmeaaGreatDoorG2
import Derived.Laws.IdiomStrings
import Derived.Test.YtcfimcghckjmeaaGreatDoorM5t
import Derived.Test.YtcfimcghckjmeaaGreatDoorH8
set_option linter.unusedSimpArgs false
set_option linter.unusedVariables false
namespace Go.Proofs.YtcfimcghckjmeaaGreatDoor
open Go.RowKit

def spacesB (n : Nat) : ByteArray := ⟨(List.replicate n (32 : UInt8)).toArray⟩
theorem spacesB_size (n : Nat) : (spacesB n).size = n := by
  show (List.replicate n (32 : UInt8)).toArray.size = n
  simp
theorem lexes_spaces : ∀ (n : Nat) (line col : Int), Lexes line col false (List.replicate n 32) []
  | 0, line, col => .nil line col false
  | n + 1, line, col => .skip line col false 32 _ _ (by decide) (by decide) (.inr (.inl (by decide))) (lexes_spaces n line (col + 1))
theorem runes_spaces : ∀ n : Nat, runesBytes (List.replicate n (32 : Int)) = spacesB n
  | 0 => by apply bytes_ext; rw [runesBytes_list]; rfl
  | n + 1 => by
    apply bytes_ext
    rw [List.replicate_succ, runesBytes_cons, runes_spaces n]
    rfl
theorem read_spaces (n : Nat) : readR (spacesB n) = ⟨[], 0, 0, 0⟩ := by
  have hi : items (spacesB n) 0 = List.replicate n 32 := by
    rw [← runes_spaces, items_of_runes _ (by intro x hx; rw [List.eq_of_mem_replicate hx]; unfold VR; omega)]
  rw [readR_ref, hi, (lexes_spaces n 1 1).ref _ _ (Nat.lt_succ_self _)]; rfl
theorem over_spaces (n : Nat) : overT (spacesB n) = ⟨[], 0, 0, 0⟩ := by
  unfold overT
  rw [read_spaces]
  rfl
theorem parse_spaces (n : Nat) : (parseT goA (spacesB n)).2 = if 262144 < n then 3 else 7 := by
  unfold parseT
  rw [spacesB_size, over_spaces]
  split
  · rfl
  · decide
end Go.Proofs.YtcfimcghckjmeaaGreatDoor
set_option linter.unusedSimpArgs false
set_option linter.unusedVariables false
namespace Go.Proofs.YtcfimcghckjmeaaGreatDoor
open Go.RowKit

/-- Block b: n bytes, the first i spaces, the others zero. -/
structure SpRow (W : World) (b n i : Nat) : Prop where
  cell : ∀ j, j < n → W.cell? ⟨b, j, none⟩ = some (.int .u8 (if j < i then 32 else 0))
  frz : ∀ j, W.frozen? ⟨b, j, none⟩ = false
  lt : b < W.heap.size
theorem SpRow.made (W : World) (n : Nat) (T : TypeId) : SpRow (W.alloc (.cells (madeCells #[.int .u8 0] n) T)) W.heap.size n 0 := by
  refine ⟨fun j hj => ?_, fun j => ?_, by simp⟩
  · rw [World.cell?_alloc_mark]
    have e := made_flat #[Value.int .u8 0] n 1 rfl (by decide)
    rw [Nat.mul_one] at e
    rw [← Array.getElem?_toList, e, flat_get (k := 1) rfl (by decide) n j (by omega)]
    simp [Nat.mod_one]
  · rw [World.frozen?_alloc_mark]; simp
theorem SpRow.step {W : World} {b n i : Nat} (h : SpRow W b n i) (hi : i < n) : SpRow (W.setCell ⟨b, i, none⟩ (.int .u8 32)) b n (i + 1) := by
  refine ⟨fun j hj => ?_, fun j => by rw [World.frozen?_setCell]; exact h.frz j, by simpa using h.lt⟩
  by_cases e : j = i
  · subst e
    rw [World.cell?_setCell_same' W _ _ (by rw [h.cell j hj]; rfl), if_pos (by omega)]
  · rw [World.cell?_setCell_other W (a := ⟨b, i, none⟩) (b := ⟨b, j, none⟩) _ (by intro h2; injection h2 with _ h2 _; exact e h2.symm), h.cell j hj]
    by_cases h2 : j < i
    · rw [if_pos h2, if_pos (by omega)]
    · rw [if_neg h2, if_neg (by omega)]
theorem SpRow.ext {W : World} {b n i : Nat} (h : SpRow W b n i) (u : Ext) : SpRow (W.ext u) b n i :=
  ⟨fun j hj => (cell?_ext W u _ h.lt).trans (h.cell j hj), fun j => (frozen?_ext W u _ h.lt).trans (h.frz j), by rw [size_ext]; have := h.lt; omega⟩
theorem SpRow.below {W W' : World} {b n i : Nat} (h : SpRow W b n i) (hb : Below W.heap.size W W') : SpRow W' b n i := by
  obtain ⟨u, rfl⟩ := hb.to_ext
  exact h.ext u
theorem SpRow.str {P : Program} {W : World} {b n : Nat} (h : SpRow W b n n) (src dst e : TypeId) (hs : P.underlying src = some (.slice e)) (he : P.underlying e = some (.int .u8)) (hd : P.underlying dst = some .string) {k m : Nat} (c : Nat) (hk : k + m = n) :
    (convert src dst (.slice (some ⟨b, k, none⟩) m c)).run P W = .ok (.string (spacesB m)) W := by
  have := run_convert_bytes_back (P := P) W src dst e ⟨b, k, none⟩ c (List.replicate m (32 : UInt8)) hs he hd (fun j hj => by
    rw [List.length_replicate] at hj
    rw [show (⟨b, k, none⟩ : Addr).add j = ⟨b, k + j, none⟩ by simp [Addr.add], h.cell (k + j) (by omega), if_pos (by omega), List.getElem_replicate]
    rfl)
  rw [List.length_replicate] at this
  exact this
end Go.Proofs.YtcfimcghckjmeaaGreatDoor
set_option linter.unusedSimpArgs false
set_option linter.unusedVariables false
namespace Go.Proofs.YtcfimcghckjmeaaGreatDoor
open Go.RowKit

def endL : List Int := [-1, 0, 1, 2, 3, 63, 64, 65]
theorem endL_at {p : Nat} (h : p < 8) : ∃ x, endL[p]? = some x ∧ -1 ≤ x ∧ x ≤ 65 := by
  match p, h with
  | 0, _ => exact ⟨_, rfl, by decide, by decide⟩
  | 1, _ => exact ⟨_, rfl, by decide, by decide⟩
  | 2, _ => exact ⟨_, rfl, by decide, by decide⟩
  | 3, _ => exact ⟨_, rfl, by decide, by decide⟩
  | 4, _ => exact ⟨_, rfl, by decide, by decide⟩
  | 5, _ => exact ⟨_, rfl, by decide, by decide⟩
  | 6, _ => exact ⟨_, rfl, by decide, by decide⟩
  | 7, _ => exact ⟨_, rfl, by decide, by decide⟩
theorem tmod_nat (n k : Nat) : (n : Int).tmod (k : Int) = ((n % k : Nat) : Int) := by rw [Int.tmod_eq_emod_of_nonneg (by omega)]; rfl
theorem tdiv_nat (n k : Nat) : (n : Int).tdiv (k : Int) = ((n / k : Nat) : Int) := by rw [Int.tdiv_eq_ediv_of_nonneg (by omega)]; rfl
/-- It returns true, in a world that still has all that lay. -/
def TrueB (w W0 : World) (e : Ending) (w' : World) : Prop := e = .returned (.bool true) ∧ Below w.heap.size w w' ∧ Below W0.heap.size W0 w'
theorem sl_lit {W : World} {g n : Nat} {us : List Value} {xs : List Int} (hg : g = W.heap.size) (hu : us = xs.map (Value.int .i64)) (hn : xs.length = n) (hm : n ≤ 1000) (hx : ∀ x ∈ xs, InI x) : Sl (W.alloc (.cells us.toArray 3)) (fun _ => True) (some ⟨g, 0, none⟩) n n xs := by
  subst hu
  exact Sl.lit (S := fun _ => False) hg (RepL.ints xs hx) hn (by omega) (fun _ h => h.elim) trivial
theorem sl_none (W : World) : Sl W (fun _ => True) none 0 0 ([] : List Int) := ⟨rfl, Nat.le_refl _, by decide, fun _ => rfl, fun h => absurd h (by decide)⟩
section
variable {w W0 Y : World} (hv : VarsP w) (h1 : Below w.heap.size w Y) (h2 : Below W0.heap.size W0 Y)
include hv h1 h2
theorem tells_at {W : World} {m : Machine} {A1 A2 : Option Addr} {n1 n2 c1 c2 : Nat} {r o a : Int} (hB : Below Y.heap.size Y W) (ha : Sl W (fun _ => True) A1 n1 c1 m.args) (hs : Sl W (fun _ => True) A2 n2 c2 m.saved) (l1 : n1 ≤ 1000) (l2 : n2 ≤ 1000) (hi : InI m.ret) :
    Calls Tryz.prog 4 #[.agg #[.int .i64 m.regs, .slice A1 n1 c1, .int .i64 m.ret, .slice A2 n2 c2], .int .i64 r, .int .i64 o, .int .i64 a] W (TrueB w W0) := by
  have b1 := h1.trans (hB.mono h1.size)
  have b2 := h2.trans (hB.mono h2.size)
  refine (machTells_any W (hv.below b1 hv.v.sz) _ _ m A1 A2 n1 c1 n2 c2 ha hs (by omega) (by omega) hi r o a).mono ?_
  rintro e w' ⟨he, u, rfl⟩
  exact ⟨he, b1.ext b1.size u, b2.ext b2.size u⟩
end
def endS : ByteArray := ⟨#[109, 97, 99, 104, 105, 110, 101, 32, 52, 32, 97, 114, 103, 115, 32, 48, 32, 49, 32, 114, 101, 116, 32, 48, 32, 115, 97, 118, 101, 100, 32, 50, 32, 51]⟩
theorem endS_size : endS.size = 34 := rfl
def endWs : List ByteArray := [⟨#[]⟩, ⟨#[120]⟩, ⟨#[97, 114, 103, 115]⟩, ⟨#[114, 101, 116]⟩, ⟨#[53]⟩, ⟨#[54, 52]⟩, ⟨#[54, 53]⟩, ⟨#[45, 49]⟩, ⟨#[61]⟩, ⟨#[10]⟩, ⟨#[51, 32, 51]⟩, ⟨#[48]⟩]
theorem endWs_at {p : Nat} (h : p < 12) : ∃ x, endWs[p]? = some x ∧ x.size ≤ 4 := by
  have hl : endWs.length = 12 := rfl
  refine ⟨endWs[p]'(by omega), List.getElem?_eq_getElem (by omega), ?_⟩
  have hall : ∀ x ∈ endWs, x.size ≤ 4 := by
    intro x hx
    have h2 : (endWs.all fun x => decide (x.size ≤ 4)) = true := by kernel_rfl
    exact of_decide_eq_true (List.all_eq_true.1 h2 x hx)
  exact hall _ (List.getElem_mem _)
theorem endWs_cell {W : World} {g : Nat} (h : W.heap[g]? = some (.cells #[.string ⟨#[]⟩, .string ⟨#[120]⟩, .string ⟨#[97, 114, 103, 115]⟩, .string ⟨#[114, 101, 116]⟩, .string ⟨#[53]⟩, .string ⟨#[54, 52]⟩, .string ⟨#[54, 53]⟩, .string ⟨#[45, 49]⟩, .string ⟨#[61]⟩, .string ⟨#[10]⟩, .string ⟨#[51, 32, 51]⟩, .string ⟨#[48]⟩] 9 (0, 0))) {p : Nat} {x : ByteArray} (hx : endWs[p]? = some x) : W.cell? ⟨g, p, none⟩ = some (.string x) := by
  have e : (#[.string ⟨#[]⟩, .string ⟨#[120]⟩, .string ⟨#[97, 114, 103, 115]⟩, .string ⟨#[114, 101, 116]⟩, .string ⟨#[53]⟩, .string ⟨#[54, 52]⟩, .string ⟨#[54, 53]⟩, .string ⟨#[45, 49]⟩, .string ⟨#[61]⟩, .string ⟨#[10]⟩, .string ⟨#[51, 32, 51]⟩, .string ⟨#[48]⟩] : Array Value) = (endWs.map Value.string).toArray := rfl
  rw [World.cell?, h, e]
  simp [hx]
set_option maxRecDepth 100000 in
set_option maxHeartbeats 4000000 in
theorem machEnds_any (w : World) (hv : VarsP w) : Calls Tryz.prog 5 #[] w (RetX (.bool true) w) := by
  have HT := hide (fun (W : World) (hb : Below w.heap.size w W) => machTells_any W (hv.below hb hv.v.sz))
  have HR := hide (fun (W : World) (hb : Below w.heap.size w W) => machReads_any W (hv.v.below hb hv.v.sz))
  have HA := hide (fun (W : World) (hb : Below w.heap.size w W) => awake05_any W (hv.v.below hb hv.v.sz))
  obtain ⟨e0, he0⟩ : ∃ e0, w.heap.size = e0 := ⟨_, rfl⟩
  obtain ⟨W0, hW0⟩ : ∃ W0, w.alloc (.cells #[.int .i64 (-1), .int .i64 0, .int .i64 1, .int .i64 2, .int .i64 3, .int .i64 63, .int .i64 64, .int .i64 65] 3) = W0 := ⟨_, rfl⟩
  have hr0 : W0.heap[e0]? = some (.cells #[.int .i64 (-1), .int .i64 0, .int .i64 1, .int .i64 2, .int .i64 3, .int .i64 63, .int .i64 64, .int .i64 65] 3 (0, 0)) := by rw [← hW0, ← he0]; exact heap_alloc_new w _
  have HB0 := hide (show Below w.heap.size w W0 by rw [← hW0]; exact (Below.refl _ _).alloc (Nat.le_refl _) _)
  have hez : e0 < W0.heap.size := (Array.getElem?_eq_some_iff.1 hr0).1
  have HCE := hide (fun (p : Nat) (x : Int) (hx : endL[p]? = some x) => show W0.cell? ⟨e0, p, none⟩ = some (.int .i64 x) by
    have hp : p < 8 := (List.getElem?_eq_some_iff.1 hx).1
    rw [World.cell?, hr0]
    match p, hp, hx with
    | 0, _, hx => injection hx with hx; rw [← hx]; rfl
    | 1, _, hx => injection hx with hx; rw [← hx]; rfl
    | 2, _, hx => injection hx with hx; rw [← hx]; rfl
    | 3, _, hx => injection hx with hx; rw [← hx]; rfl
    | 4, _, hx => injection hx with hx; rw [← hx]; rfl
    | 5, _, hx => injection hx with hx; rw [← hx]; rfl
    | 6, _, hx => injection hx with hx; rw [← hx]; rfl
    | 7, _, hx => injection hx with hx; rw [← hx]; rfl)
  clear hr0
  go_enter Tryz.func5, Tryz.ntmps5
  go_wp2_with fail
  have HE0 := hide he0; have HW0 := hide hW0
  clear he0 hW0
  go_loopw [2] (fun a wr => ∃ (n : Nat) (v : Ext), a = .int .i64 n ∧ n ≤ 512 ∧ wr = W0.ext v) (fun a _ => 512 - (intOf a).toNat)
  case atStart => exact ⟨0, _, rfl, by omega, (ext_refl W0).choose_spec⟩
  case round =>
    obtain ⟨n, v, rfl, hn, rfl⟩ := hrel
    by_cases hlt : n < 512
    · obtain ⟨p, hp⟩ : ∃ p, n % 8 = p := ⟨_, rfl⟩
      obtain ⟨q, hq⟩ : ∃ q, n / 8 = q := ⟨_, rfl⟩
      obtain ⟨s, hs⟩ : ∃ s, q % 8 = s := ⟨_, rfl⟩
      obtain ⟨t, ht⟩ : ∃ t, n / 64 = t := ⟨_, rfl⟩
      have p8 : p < 8 := by omega
      have s8 : s < 8 := by omega
      have t8 : t < 8 := by omega
      have mp : (n : Int).tmod 8 = (p : Int) := by rw [← hp]; exact tmod_nat n 8
      have mq : (n : Int).tdiv 8 = (q : Int) := by rw [← hq]; exact tdiv_nat n 8
      have ms : (q : Int).tmod 8 = (s : Int) := by rw [← hs]; exact tmod_nat q 8
      have mt : (n : Int).tdiv 64 = (t : Int) := by rw [← ht]; exact tdiv_nat n 64
      have q63 : q ≤ 63 := by omega
      have wq : IntKind.i64.wrap (q : Int) = (q : Int) := IntWalk.i64_in _ (by omega)
      have wt : IntKind.i64.wrap (t : Int) = (t : Int) := IntWalk.i64_in _ (by omega)
      have pi : (p : Int) < 8 := by omega
      have si : (s : Int) < 8 := by omega
      have ti : (t : Int) < 8 := by omega
      have pd : decide ((p : Int) < 8) = true := by simp; omega
      have sd : decide ((s : Int) < 8) = true := by simp; omega
      have td : decide ((t : Int) < 8) = true := by simp; omega
      obtain ⟨xa, ha, ha1, ha2⟩ := endL_at p8
      obtain ⟨xb, hb, hb1, hb2⟩ := endL_at s8
      obtain ⟨xc, hc, hc1, hc2⟩ := endL_at t8
      have ca := HCE.out p xa ha
      have cb := HCE.out s xb hb
      have cc := HCE.out t xc hc
      clear hp hq hs ht ha hb hc
      obtain ⟨Y, hY⟩ : ∃ Y, W0.ext v = Y := ⟨_, rfl⟩
      have ya : Y.cell? ⟨e0, p, none⟩ = some (.int .i64 xa) := by rw [← hY]; exact (cell?_ext W0 v _ hez).trans ca
      have yb : Y.cell? ⟨e0, s, none⟩ = some (.int .i64 xb) := by rw [← hY]; exact (cell?_ext W0 v _ hez).trans cb
      have yc : Y.cell? ⟨e0, t, none⟩ = some (.int .i64 xc) := by rw [← hY]; exact (cell?_ext W0 v _ hez).trans cc
      have yz : e0 < Y.heap.size := by rw [← hY, size_ext]; omega
      have HY := hide hY
      rw [hY]
      clear hY ca cb cc
      go_wp2_with fail
      refine wp_region_flow_ext [] [] (by kernel_rfl) rfl (by kernel_rfl) ?_
      repeat (refine flow_known (by kernel_rfl) (fun K hK => ?_); go_simp; (first | (refine hK _ ?_; clear hK K) | (apply Exists.intro; refine ⟨fun _ => ?_, hK _ ?_⟩; (fail); clear hK K)))
      refine flow_done [] (by kernel_rfl) ?_
      intro u0
      simp only [List.nil_append, List.cons_append, endH_f, endH_t, endH_nil]
      go_simp
      obtain ⟨Y1, hY1⟩ : ∃ Y1, Y.ext u0 = Y1 := ⟨_, rfl⟩
      have HBY := hide (show Below w.heap.size w Y1 by rw [← hY1, ← HY.out]; exact (HB0.out.ext HB0.out.size v).ext (by rw [size_ext]; have := HB0.out.size; omega) u0)
      have HBW := hide (show Below W0.heap.size W0 Y1 by rw [← hY1, ← HY.out]; exact ((Below.refl _ _).ext (Nat.le_refl _) v).ext (by rw [size_ext]; omega) u0)
      rw [hY1]
      clear hY1 ya yb yc yz pd sd td pi si ti mp mq ms mt wq wt
      have hsY : w.heap.size ≤ Y1.heap.size := HBY.out.size
      have ixa : InI xa := ⟨by omega, by omega⟩
      have ixb : InI xb := ⟨by omega, by omega⟩
      have ixc : InI xc := ⟨by omega, by omega⟩
      have ix2 : ∀ x ∈ [xb, xc], InI x := by intro x hx; simp at hx; rcases hx with rfl | rfl <;> assumption
      have ix1 : ∀ x ∈ [(1 : Int)], InI x := by intro x hx; simp at hx; rw [hx]; exact ⟨by decide, by decide⟩
      have T1 := hide (fun (Y : World) (h1 : Below w.heap.size w Y) (h2 : Below W0.heap.size W0 Y) => show Calls Tryz.prog 4 #[.agg #[.int .i64 xa, .slice (some ⟨Y.heap.size, 0, none⟩) 2 2, .int .i64 0, .slice (some ⟨Y.heap.size + 1, 0, none⟩) 1 1], .int .i64 xb, .int .i64 xc, .int .i64 2] ((Y.alloc (.cells #[.int .i64 xb, .int .i64 xc] 3)).alloc (.cells #[.int .i64 1] 3)) (TrueB w W0) from
        tells_at hv h1 h2 (m := ⟨xa, [xb, xc], 0, [1]⟩) (((Below.refl _ _).alloc (Nat.le_refl _) _).alloc (by simp) _) ((sl_lit rfl rfl rfl (by show 2 ≤ 1000; decide) ix2).alloc _) (sl_lit (by simp) rfl rfl (by decide) ix1) (by decide) (by decide) (by show InI 0; exact ⟨by decide, by decide⟩))
      have T2 := hide (fun (Y : World) (h1 : Below w.heap.size w Y) (h2 : Below W0.heap.size W0 Y) => show Calls Tryz.prog 4 #[.agg #[.int .i64 64, .slice (some ⟨Y.heap.size, 0, none⟩) 1 1, .int .i64 xa, .slice (some ⟨Y.heap.size + 1, 0, none⟩) 2 2], .int .i64 xa, .int .i64 63, .int .i64 1] ((Y.alloc (.cells #[.int .i64 1] 3)).alloc (.cells #[.int .i64 xb, .int .i64 xc] 3)) (TrueB w W0) from
        tells_at hv h1 h2 (m := ⟨64, [1], xa, [xb, xc]⟩) (((Below.refl _ _).alloc (Nat.le_refl _) _).alloc (by simp) _) ((sl_lit rfl rfl rfl (by decide) ix1).alloc _) (sl_lit (by simp) rfl rfl (by show 2 ≤ 1000; decide) ix2) (by decide) (by decide) ixa)
      have T3 := hide (fun (Y : World) (h1 : Below w.heap.size w Y) (h2 : Below W0.heap.size W0 Y) => show Calls Tryz.prog 4 #[.agg #[.int .i64 xa, .slice none 0 0, .int .i64 xb, .slice none 0 0], .int .i64 xc, .int .i64 (xa - 1), .int .i64 0] Y (TrueB w W0) from
        tells_at hv h1 h2 (m := ⟨xa, [], xb, []⟩) (Below.refl _ _) (sl_none _) (sl_none _) (by decide) (by decide) ixb)
      clear ixa ixb ixc ix2 ix1
      go_wp2_with (first
        | (go_at_call 4; (with_reducible refine (T1.out _ HBY.out HBW.out).mono ?_); rintro e Y2 ⟨rfl, p2, q2⟩)
        | (go_at_call 4; (with_reducible refine (T2.out _ p2 q2).mono ?_); rintro e Y3 ⟨rfl, p3, q3⟩)
        | (go_at_call 4; (with_reducible refine (T3.out _ p3 q3).mono ?_); rintro e Y4 ⟨rfl, p4, q4⟩))
      have P4 := hide p4; have Q4 := hide q4
      clear p2 q2 p3 q3 p4 q4
      go_roundw
      case rel =>
        obtain ⟨v4, hv4⟩ := Q4.out.to_ext
        exact ⟨n + 1, v4, by go_num, by omega, hv4⟩
      case measure => simp [intOf]; omega
    · have hn5 : n = 512 := by omega
      subst hn5
      have HBV := hide (show Below w.heap.size w (W0.ext v) from HB0.out.ext HB0.out.size v)
      clear HCE hez HB0 hlt hn
      go_wp2_with fail
      obtain ⟨i0, hi, hz, hz1, hz2⟩ := info_parts info_int
      have HI0 := hide hi; have HZ := hide hz; have HZ1 := hide hz1; have HZ2 := hide hz2
      clear hi hz hz1 hz2
      go_loopw [6] (fun a wr => ∃ (n : Nat), a = .int .i64 n ∧ n ≤ 70 ∧ Below w.heap.size w wr) (fun a _ => 70 - (intOf a).toNat)
      case atStart => exact ⟨0, rfl, by omega, HBV.out⟩
      case round =>
        obtain ⟨n, rfl, hn, hbw⟩ := hrel
        have HBW := hide hbw
        have hws := hbw.size
        clear hbw HBV
        by_cases hlt : n < 70
        · go_wp2_with (at_make; refine wpList_make_row _ rfl _ _ 23 rfl 3 i0 _ Tryz.underlying23 HI0.out HZ.out HZ1.out rfl _ _ n rfl rfl (by rw [HZ2.out]; omega) (by omega) ?_)
          obtain ⟨V, hV⟩ : ∃ V, V = wr := ⟨_, rfl⟩
          subst hV
          have HOM := hide (show OwnL (V.alloc (.cells (madeCells #[.int .i64 0] n) 3)) w.heap.size 3 (fun _ => False) (.slice (some ⟨V.heap.size, 0, none⟩) n n) (List.replicate n (0 : Int)) from by
            have h := OwnL.made (α := Int) (n := n) (S := fun _ => False) (T := 3) (w := V) (x := 0) (z := #[.int .i64 0]) rfl (by decide) ⟨rfl, by decide, by decide⟩ (by unfold maxLen; omega) hws (fun h => h) rfl
            rw [show Rep.size Int = 1 from rfl, Nat.mul_one] at h; exact h)
          obtain ⟨X, hX⟩ : ∃ X, V.alloc (.cells (madeCells #[.int .i64 0] n) 3) = X := ⟨_, rfl⟩
          have HBX := hide (show Below w.heap.size w X by rw [← hX]; exact HBW.out.alloc hws _)
          rw [hX] at HOM
          have hVX : V.heap.size < X.heap.size := by rw [← hX]; simp
          rw [hX]
          clear hX
          obtain ⟨mb, hmb⟩ : ∃ mb, V.heap.size = mb := ⟨_, rfl⟩
          rw [hmb] at HOM hVX
          rw [hmb]
          have hwm : w.heap.size ≤ mb := by omega
          clear hmb HBW hws
          obtain ⟨ys0, hys0⟩ : ∃ ys0, List.replicate n (0 : Int) = ys0 := ⟨_, rfl⟩
          have hl0 : ys0.length = n := by rw [← hys0]; simp
          rw [hys0] at HOM
          clear hys0
          go_wp2_with fail
          go_loopw [8] (fun a wr => ∃ (i : Nat) (ys : List Int), a = .int .i64 i ∧ i ≤ n ∧ ys.length = n ∧ OwnL wr w.heap.size 3 (fun _ => False) (.slice (some ⟨mb, 0, none⟩) n n) ys ∧ Below w.heap.size w wr) (fun a _ => n - (intOf a).toNat)
          case atStart => exact ⟨0, ys0, rfl, Nat.zero_le _, hl0, HOM.out, HBX.out⟩
          case round =>
            obtain ⟨i, ys, rfl, hi, hyl, hoy, hbv⟩ := hrel
            have HYL := hide hyl; have HOY := hide hoy; have HBV := hide hbv
            have hmw := (hoy.below_ mb rfl).2
            clear hyl hoy hbv HOM HBX hVX hl0
            by_cases hli : i < n
            · obtain ⟨y0, hy0⟩ : ∃ y0, ys[i]? = some y0 := ⟨_, List.getElem?_eq_getElem (by rw [HYL.out]; exact hli)⟩
              obtain ⟨us, hus, hcu, hfu⟩ := HOY.out.cell_at hy0
              have hus' : us = [.int .i64 y0] := hus.1
              subst hus'
              have hcy := hcu 0 _ rfl
              simp only [show Rep.size Int = 1 from rfl, Nat.mul_one, Nat.add_zero] at hcy
              have hfz := hfu i
              clear hcu hfu
              have HST := hide (HOY.out.set (j := 0) (v := .int .i64 (i : Int)) (y := (i : Int)) hy0 (by decide) (fun us hu => by
                have e : us = [.int .i64 y0] := hu.1
                subst e
                exact ⟨rfl, ⟨by omega, by omega⟩⟩))
              simp only [show Rep.size Int = 1 from rfl, Nat.mul_one, Nat.add_zero] at HST
              clear hus hy0
              go_wp2_with fail
              go_roundw
              case rel => exact ⟨i + 1, ys.set i i, by go_num, by omega, by rw [List.length_set]; exact HYL.out, HST.out, HBV.out.setCell (by show w.heap.size ≤ mb; exact hwm) _⟩
              case measure => simp [intOf]; omega
            · have hin : i = n := by omega
              obtain ⟨k, hk⟩ : ∃ k : Nat, max ((n : Int) - 1) 0 = (k : Int) := ⟨n - 1, by omega⟩
              have hkn : k ≤ n := by omega
              have hk64 : IntKind.i64.wrap ((n : Int) - 1) = (n : Int) - 1 := IntWalk.i64_in _ (by omega)
              have hin1 : InI ((n : Int) - 1) := ⟨by omega, by omega⟩
              have SA := hide (show Sl wr (fun _ => True) (some ⟨mb, 0, none⟩) n n ys from HOY.out.sl fun _ _ _ => trivial)
              have SB := hide (show Sl wr (fun _ => True) (some ⟨mb, 0, none⟩) k n (ys.take k) from (HOY.out.prefix_of rfl hkn rfl).sl fun _ _ _ => trivial)
              have T1 := hide (show Calls Tryz.prog 4 #[.agg #[.int .i64 64, .slice (some ⟨mb, 0, none⟩) n n, .int .i64 0, .slice none 0 0], .int .i64 3, .int .i64 n, .int .i64 n] wr (TrueB w wr) from
                tells_at hv HBV.out (Below.refl _ _) (m := ⟨64, ys, 0, []⟩) (Below.refl _ _) SA.out (sl_none _) (by omega) (by decide) (by show InI 0; exact ⟨by decide, by decide⟩))
              have T2 := hide (fun (Y : World) (h1 : Below w.heap.size w Y) (h2 : Below wr.heap.size wr Y) => show Calls Tryz.prog 4 #[.agg #[.int .i64 n, .slice none 0 0, .int .i64 ((n : Int) - 1), .slice (some ⟨mb, 0, none⟩) k n], .int .i64 n, .int .i64 ((n : Int) - 1), .int .i64 0] Y (TrueB w wr) from
                tells_at hv h1 h2 (m := ⟨n, [], (n : Int) - 1, ys.take k⟩) (Below.refl _ _) (sl_none _) (SB.out.belowAll h2) (by decide) (by omega) (show InI ((n : Int) - 1) from hin1))
              have T3 := hide (fun (Y : World) (h1 : Below w.heap.size w Y) (h2 : Below wr.heap.size wr Y) => show Calls Tryz.prog 4 #[.agg #[.int .i64 n, .slice none 0 0, .int .i64 0, .slice (some ⟨mb, 0, none⟩) n n], .int .i64 n, .int .i64 n, .int .i64 0] Y (TrueB w wr) from
                tells_at hv h1 h2 (m := ⟨n, [], 0, ys⟩) (Below.refl _ _) (sl_none _) (SA.out.belowAll h2) (by decide) (by omega) (by show InI 0; exact ⟨by decide, by decide⟩))
              clear SA SB hin1
              go_wp2_with (first
                | (go_at_call 4; (with_reducible refine T1.out.mono ?_); rintro e Y2 ⟨rfl, p2, q2⟩)
                | (go_at_call 4; (with_reducible refine (T2.out _ p2 q2).mono ?_); rintro e Y3 ⟨rfl, p3, q3⟩)
                | (go_at_call 4; (with_reducible refine (T3.out _ p3 q3).mono ?_); rintro e Y4 ⟨rfl, p4, q4⟩))
              have P4 := hide p4
              clear p2 q2 p3 q3 p4 q4
              refine ⟨?_, ?measure⟩
              apply Exists.intro
              repeat apply Exists.intro
              refine ⟨?rel, rfl⟩
              case rel => exact ⟨n + 1, by go_num, by omega, P4.out⟩
              case measure => simp [intOf]; omega
        · have hn7 : n = 70 := by omega
          subst hn7
          clear hlt hn
          obtain ⟨e1, he1⟩ : ∃ e1, wr.heap.size = e1 := ⟨_, rfl⟩
          obtain ⟨W1, hW1⟩ : ∃ W1, wr.alloc (.cells #[.string ⟨#[]⟩, .string ⟨#[120]⟩, .string ⟨#[97, 114, 103, 115]⟩, .string ⟨#[114, 101, 116]⟩, .string ⟨#[53]⟩, .string ⟨#[54, 52]⟩, .string ⟨#[54, 53]⟩, .string ⟨#[45, 49]⟩, .string ⟨#[61]⟩, .string ⟨#[10]⟩, .string ⟨#[51, 32, 51]⟩, .string ⟨#[48]⟩] 9) = W1 := ⟨_, rfl⟩
          have HR1 := hide (show W1.heap[e1]? = some (.cells #[.string ⟨#[]⟩, .string ⟨#[120]⟩, .string ⟨#[97, 114, 103, 115]⟩, .string ⟨#[114, 101, 116]⟩, .string ⟨#[53]⟩, .string ⟨#[54, 52]⟩, .string ⟨#[54, 53]⟩, .string ⟨#[45, 49]⟩, .string ⟨#[61]⟩, .string ⟨#[10]⟩, .string ⟨#[51, 32, 51]⟩, .string ⟨#[48]⟩] 9 (0, 0)) by rw [← hW1, ← he1]; exact heap_alloc_new wr _)
          have HB1 := hide (show Below w.heap.size w W1 by rw [← hW1]; exact HBW.out.alloc hws _)
          have he1' : e1 < W1.heap.size := by rw [← hW1, ← he1]; simp
          have hw1 : w.heap.size ≤ W1.heap.size := HB1.out.size
          obtain ⟨ST, hST⟩ : ∃ S, (⟨#[109, 97, 99, 104, 105, 110, 101, 32, 52, 32, 97, 114, 103, 115, 32, 48, 32, 49, 32, 114, 101, 116, 32, 48, 32, 115, 97, 118, 101, 100, 32, 50, 32, 51]⟩ : ByteArray) = S := ⟨_, rfl⟩
          have hSz : ST.size = 34 := by rw [← hST]; rfl
          go_wp2_with fail
          clear hST he1 hW1 hws HBW
          go_loopw [11, 12] (fun f a wr => ∃ (k q : Nat) (v : Ext), f = .int .i64 q ∧ a = .int .i64 k ∧ q ≤ 34 ∧ k ≤ 35 ∧ wr = W1.ext v) (fun _ a _ => 35 - (intOf a).toNat)
          case atStart => exact ⟨0, 0, _, rfl, rfl, by omega, by omega, (ext_refl W1).choose_spec⟩
          case round =>
            obtain ⟨k, q, v, rfl, rfl, hq, hk, rfl⟩ := hrel
            by_cases hk35 : k < 35
            · by_cases hk34 : k < 34
              · have hki : decide ((k : Int) ≤ 34) = true := by simp; omega
                obtain ⟨tb, htb⟩ : ∃ tb, ((((ST[k]'(by omega)).toNat : Nat) : Int) != 32) = tb := ⟨_, rfl⟩
                cases tb
                all_goals go_wp2_with fail
                all_goals first
                  | exact ⟨⟨k + 1, q, v, rfl, by go_num, hq, by omega, rfl⟩, by simp [intOf]; omega⟩
                  | (go_loopw [13] (fun a wr => ∃ (p : Nat) (v : Ext), a = .int .i64 p ∧ p ≤ 12 ∧ wr = W1.ext v) (fun a _ => 12 - (intOf a).toNat)
                     case atStart => exact ⟨0, v, rfl, by omega, rfl⟩
                     case round =>
                       obtain ⟨p, v5, rfl, hp, rfl⟩ := hrel
                       by_cases hp12 : p < 12
                       · obtain ⟨x, hx, hx4⟩ := endWs_at hp12
                         obtain ⟨Y, hY⟩ : ∃ Y, W1.ext v5 = Y := ⟨_, rfl⟩
                         have yx : Y.cell? ⟨e1, p, none⟩ = some (.string x) := by rw [← hY]; exact (cell?_ext W1 v5 _ he1').trans (endWs_cell HR1.out hx)
                         have yz : e1 < Y.heap.size := by rw [← hY, size_ext]; omega
                         have HYQ := hide hY
                         have HBU := hide (fun u : Ext => show Below w.heap.size w (Y.ext u) by rw [← hY]; exact (HB1.out.ext hw1 v5).ext (by rw [size_ext]; omega) u)
                         rw [hY]
                         clear hY hx
                         obtain ⟨a1, ha1⟩ : ∃ a, ST.extract 0 q = a := ⟨_, rfl⟩
                         obtain ⟨a2, ha2⟩ : ∃ a, ST.extract k 34 = a := ⟨_, rfl⟩
                         have l1 : a1.size ≤ 34 := by rw [← ha1, ByteArray.size_extract]; omega
                         have l2 : a2.size ≤ 34 := by rw [← ha2, ByteArray.size_extract]; omega
                         obtain ⟨a3, ha3⟩ : ∃ a, a1 ++ x = a := ⟨_, rfl⟩
                         have l3 : a3.size ≤ 38 := by rw [← ha3, ByteArray.size_append]; omega
                         obtain ⟨a4, ha4⟩ : ∃ a, a3 ++ a2 = a := ⟨_, rfl⟩
                         have l4 : a4.size ≤ 140737488355328 := by rw [← ha4, ByteArray.size_append]; omega
                         have pi : (p : Int) < 12 := by omega
                         have qi : (q : Int) ≤ 34 := by omega
                         have ki : (k : Int) ≤ 34 := by omega
                         have HL4 := hide l4
                         go_wp2_with fail
                         refine wp_region_flow_ext [] [] (by kernel_rfl) rfl (by kernel_rfl) ?_
                         repeat (refine flow_known (by kernel_rfl) (fun K hK => ?_); go_simp; (first | (refine hK _ ?_; clear hK K) | (apply Exists.intro; refine ⟨fun _ => ?_, hK _ ?_⟩; (fail); clear hK K)))
                         refine flow_out [] (.string a3) (by kernel_rfl) ?_ ?_
                         · intro u
                           try simp only [List.nil_append, List.cons_append, useH_f, useH_t, useH_nil]
                           go_simp
                           first | (rw [if_neg (by omega)]; exact ⟨rfl, rfl⟩) | (rw [if_neg (by omega)]; exact ⟨by rw [ha3], rfl⟩) | (trace_state; sorry)
                         repeat (refine flow_known (by kernel_rfl) (fun K hK => ?_); go_simp; (first | (refine hK _ ?_; clear hK K) | (apply Exists.intro; refine ⟨fun _ => ?_, hK _ ?_⟩; (fail); clear hK K)))
                         refine flow_out [] (.string a4) (by kernel_rfl) ?_ ?_
                         · intro u
                           try simp only [List.nil_append, List.cons_append, useH_f, useH_t, useH_nil]
                           go_simp
                           first | (rw [if_neg (by omega)]; exact ⟨rfl, rfl⟩) | (rw [if_neg (by omega)]; exact ⟨by rw [ha4], rfl⟩) | (trace_state; sorry)
                         repeat (refine flow_known (by kernel_rfl) (fun K hK => ?_); go_simp; (first | (refine hK _ ?_; clear hK K) | (apply Exists.intro; refine ⟨fun _ => ?_, hK _ ?_⟩; ((go_at_call 3; exact HR.out _ (HBU.out _) _ HL4.out)); clear hK K)))
                         refine flow_done [] (by kernel_rfl) ?_
                         intro u6
                         simp only [List.nil_append, List.cons_append, endH_f, endH_t, endH_nil]
                         go_simp
                         go_wp2_with fail
                         obtain ⟨v3, hv3⟩ := ext_ext W1 v5 u6
                         have hv4 : Y.ext u6 = W1.ext v3 := by rw [← HYQ.out, hv3]
                         exact ⟨⟨p + 1, v3, by go_num, by omega, hv4⟩, by simp [intOf]; omega⟩
                       · have hp13 : p = 12 := by omega
                         subst hp13
                         have hmn : min ((k : Int) + 1) 34 = ((min (k + 1) 34 : Nat) : Int) := by omega
                         go_wp2_with fail
                         first | exact ⟨⟨k + 1, min (k + 1) 34, v5, by go_num, by go_num, by omega, by omega, rfl⟩, by simp [intOf]; omega⟩ | (trace_state; sorry))
              · go_wp2_with fail
                go_loopw [13] (fun a wr => ∃ (p : Nat) (v : Ext), a = .int .i64 p ∧ p ≤ 12 ∧ wr = W1.ext v) (fun a _ => 12 - (intOf a).toNat)
                case atStart => exact ⟨0, v, rfl, by omega, rfl⟩
                case round =>
                  obtain ⟨p, v5, rfl, hp, rfl⟩ := hrel
                  by_cases hp12 : p < 12
                  · obtain ⟨x, hx, hx4⟩ := endWs_at hp12
                    obtain ⟨Y, hY⟩ : ∃ Y, W1.ext v5 = Y := ⟨_, rfl⟩
                    have yx : Y.cell? ⟨e1, p, none⟩ = some (.string x) := by rw [← hY]; exact (cell?_ext W1 v5 _ he1').trans (endWs_cell HR1.out hx)
                    have yz : e1 < Y.heap.size := by rw [← hY, size_ext]; omega
                    have HYQ := hide hY
                    have HBU := hide (fun u : Ext => show Below w.heap.size w (Y.ext u) by rw [← hY]; exact (HB1.out.ext hw1 v5).ext (by rw [size_ext]; omega) u)
                    rw [hY]
                    clear hY hx
                    obtain ⟨a1, ha1⟩ : ∃ a, ST.extract 0 q = a := ⟨_, rfl⟩
                    obtain ⟨a2, ha2⟩ : ∃ a, ST.extract k 34 = a := ⟨_, rfl⟩
                    have l1 : a1.size ≤ 34 := by rw [← ha1, ByteArray.size_extract]; omega
                    have l2 : a2.size ≤ 34 := by rw [← ha2, ByteArray.size_extract]; omega
                    obtain ⟨a3, ha3⟩ : ∃ a, a1 ++ x = a := ⟨_, rfl⟩
                    have l3 : a3.size ≤ 38 := by rw [← ha3, ByteArray.size_append]; omega
                    obtain ⟨a4, ha4⟩ : ∃ a, a3 ++ a2 = a := ⟨_, rfl⟩
                    have l4 : a4.size ≤ 140737488355328 := by rw [← ha4, ByteArray.size_append]; omega
                    have pi : (p : Int) < 12 := by omega
                    have qi : (q : Int) ≤ 34 := by omega
                    have ki : (k : Int) ≤ 34 := by omega
                    have HL4 := hide l4
                    go_wp2_with fail
                    refine wp_region_flow_ext [] [] (by kernel_rfl) rfl (by kernel_rfl) ?_
                    repeat (refine flow_known (by kernel_rfl) (fun K hK => ?_); go_simp; (first | (refine hK _ ?_; clear hK K) | (apply Exists.intro; refine ⟨fun _ => ?_, hK _ ?_⟩; (fail); clear hK K)))
                    refine flow_out [] (.string a3) (by kernel_rfl) ?_ ?_
                    · intro u
                      try simp only [List.nil_append, List.cons_append, useH_f, useH_t, useH_nil]
                      go_simp
                      first | (rw [if_neg (by omega)]; exact ⟨rfl, rfl⟩) | (rw [if_neg (by omega)]; exact ⟨by rw [ha3], rfl⟩) | (trace_state; sorry)
                    repeat (refine flow_known (by kernel_rfl) (fun K hK => ?_); go_simp; (first | (refine hK _ ?_; clear hK K) | (apply Exists.intro; refine ⟨fun _ => ?_, hK _ ?_⟩; (fail); clear hK K)))
                    refine flow_out [] (.string a4) (by kernel_rfl) ?_ ?_
                    · intro u
                      try simp only [List.nil_append, List.cons_append, useH_f, useH_t, useH_nil]
                      go_simp
                      first | (rw [if_neg (by omega)]; exact ⟨rfl, rfl⟩) | (rw [if_neg (by omega)]; exact ⟨by rw [ha4], rfl⟩) | (trace_state; sorry)
                    repeat (refine flow_known (by kernel_rfl) (fun K hK => ?_); go_simp; (first | (refine hK _ ?_; clear hK K) | (apply Exists.intro; refine ⟨fun _ => ?_, hK _ ?_⟩; ((go_at_call 3; exact HR.out _ (HBU.out _) _ HL4.out)); clear hK K)))
                    refine flow_done [] (by kernel_rfl) ?_
                    intro u6
                    simp only [List.nil_append, List.cons_append, endH_f, endH_t, endH_nil]
                    go_simp
                    go_wp2_with fail
                    obtain ⟨v3, hv3⟩ := ext_ext W1 v5 u6
                    have hv4 : Y.ext u6 = W1.ext v3 := by rw [← HYQ.out, hv3]
                    exact ⟨⟨p + 1, v3, by go_num, by omega, hv4⟩, by simp [intOf]; omega⟩
                  · have hp13 : p = 12 := by omega
                    subst hp13
                    have hmn : min ((k : Int) + 1) 34 = ((min (k + 1) 34 : Nat) : Int) := by omega
                    go_wp2_with fail
                    first | exact ⟨⟨k + 1, min (k + 1) 34, v5, by go_num, by go_num, by omega, by omega, rfl⟩, by simp [intOf]; omega⟩ | (trace_state; sorry)
            · have hk5 : k = 35 := by omega
              have HBE := hide (show Below w.heap.size w (W1.ext v) from HB1.out.ext hw1 v)
              clear he1' HR1
              obtain ⟨i1, hi1, hy1, hy2, hy3⟩ := info_parts (show (Tryz.prog.info? 5).map (fun i => (i.zero, i.size, i.bytes)) = some (some (.int .u8 0), 1, 1) by kernel_rfl)
              have HI1 := hide hi1; have HY1 := hide hy1; have HY2 := hide hy2; have HY3 := hide hy3
              clear hi1 hy1 hy2 hy3
              go_wp2_with (at_make; refine wpList_make_row _ rfl _ _ 46 rfl 5 i1 _ Tryz.underlying46 HI1.out HY1.out HY2.out rfl _ _ 262145 rfl rfl (by rw [HY3.out]; omega) (by omega) ?_)
              obtain ⟨Z, hZ⟩ : ∃ Z, W1.ext v = Z := ⟨_, rfl⟩
              rw [hZ] at HBE
              rw [hZ]
              have HSP0 := hide (SpRow.made Z 262145 5)
              have HBX := hide (HBE.out.alloc HBE.out.size (.cells (madeCells #[.int .u8 0] 262145) 5))
              obtain ⟨X, hX⟩ : ∃ X, Z.alloc (.cells (madeCells #[.int .u8 0] 262145) 5) = X := ⟨_, rfl⟩
              rw [hX] at HSP0 HBX
              rw [hX]
              have hzs : Z.heap.size = W1.heap.size + v.blocks.size := by rw [← hZ, size_ext]
              clear hX hZ
              obtain ⟨mb, hmb⟩ : ∃ mb, W1.heap.size + v.blocks.size = mb := ⟨_, rfl⟩
              have hwm : w.heap.size ≤ mb := by have := HBE.out.size; omega
              rw [hzs, hmb] at HSP0
              rw [hmb]
              clear hmb hzs HBE
              go_wp2_with fail
              go_loopw [15] (fun a wr => ∃ i : Nat, a = .int .i64 i ∧ i ≤ 262145 ∧ SpRow wr mb 262145 i ∧ Below w.heap.size w wr) (fun a _ => 262145 - (intOf a).toNat)
              case atStart => exact ⟨0, rfl, by omega, HSP0.out, HBX.out⟩
              case round =>
                obtain ⟨i, rfl, hi, hsp, hbw⟩ := hrel
                have HSP := hide hsp
                have HBW := hide hbw
                have hbz := hsp.lt
                clear hsp hbw HSP0 HBX
                by_cases hli : i < 262145
                · obtain ⟨y0, hy0⟩ : ∃ y0 : Int, (if i < i then 32 else 0) = y0 := ⟨_, rfl⟩
                  have hcu := HSP.out.cell i hli
                  rw [hy0] at hcu
                  clear hy0
                  have hfu := HSP.out.frz i
                  have HST := hide (HSP.out.step hli)
                  have hli2 : (i : Int) < 262145 := by omega
                  go_wp2_with fail
                  go_roundw
                  case rel => exact ⟨i + 1, by go_num, by omega, HST.out, HBW.out.setCell (by show w.heap.size ≤ mb; exact hwm) _⟩
                  case measure => simp [intOf]; omega
                · have hin : i = 262145 := by omega
                  subst hin
                  obtain ⟨P1, hP1⟩ : ∃ p, parseT goA (spacesB 262145) = p := ⟨_, rfl⟩
                  obtain ⟨P2, hP2⟩ : ∃ p, parseT goA (spacesB 262144) = p := ⟨_, rfl⟩
                  have e1 : P1.2 = 3 := by rw [← hP1, parse_spaces, if_pos (by decide)]
                  have e2 : P2.2 = 7 := by rw [← hP2, parse_spaces, if_neg (by decide)]
                  obtain ⟨m1, x1⟩ := P1
                  obtain ⟨m2, x2⟩ := P2
                  have e1 : x1 = 3 := e1
                  have e2 : x2 = 7 := e2
                  subst e1 e2
                  have HPA1 := hide (show Calls Tryz.prog 7 #[.string (spacesB 262145)] wr (RetM (m1, 3) wr) from by
                    have h := parse5_any (spacesB 262145) wr (by rw [spacesB_size]; decide) (hv.v.below HBW.out hv.v.sz)
                    rw [hP1] at h; exact h)
                  have HPA2 := hide (fun (W : World) (hb : Below w.heap.size w W) => show Calls Tryz.prog 7 #[.string (spacesB 262144)] W (RetM (m2, 7) W) from by
                    have h := parse5_any (spacesB 262144) W (by rw [spacesB_size]; decide) (hv.v.below hb hv.v.sz)
                    rw [hP2] at h; exact h)
                  clear hP1 hP2
                  obtain ⟨T1, hT1⟩ : ∃ t, spacesB 262145 = t := ⟨_, rfl⟩
                  obtain ⟨T2, hT2⟩ : ∃ t, spacesB 262144 = t := ⟨_, rfl⟩
                  have hcv := HSP.out.str (P := Tryz.prog) 46 9 5 Tryz.underlying46 Tryz.underlying5 Tryz.underlying9 (k := 0) (m := 262145) 262145 rfl
                  rw [hT1] at hcv HPA1
                  rw [hT2] at HPA2
                  have HT2 := hide hT2
                  clear hT1 hT2
                  go_wp2_with (go_at_call 7; (with_reducible refine HPA1.out.mono ?_); rintro e W7 ⟨B1, j1, d1, B2, j2, d2, rfl, hs1, hs2, hb7⟩; dsimp only at hs1 hs2 ⊢; refine Hd.out ?_)
                  obtain ⟨Wf, hWf⟩ : ∃ W', W7.alloc (.cells #[.int .i64 m1.regs, .slice B1 j1 d1, .int .i64 m1.ret, .slice B2 j2 d2] 25) = W' := ⟨_, rfl⟩
                  obtain ⟨gf, hgf⟩ : ∃ g', W7.heap.size = g' := ⟨_, rfl⟩
                  have HB7 := hide (HBW.out.trans (hb7.mono HBW.out.size))
                  have HBF := hide (show Below w.heap.size w Wf by rw [← hWf]; exact HB7.out.alloc HB7.out.size _)
                  have HSF := hide (show SpRow Wf mb 262145 262145 by rw [← hWf]; exact HSP.out.below (hb7.alloc hb7.size _))
                  have hcw := HSF.out.str (P := Tryz.prog) 46 9 5 Tryz.underlying46 Tryz.underlying5 Tryz.underlying9 (k := 1) (m := 262144) 262144 rfl
                  rw [HT2.out] at hcw
                  have hwf : w.heap.size ≤ Wf.heap.size := HBF.out.size
                  clear hs1 hs2 hb7 hcv HPA1
                  refine hide ?_
                  go_wp2_with (go_at_call 7; (with_reducible refine (HPA2.out _ HBF.out).mono ?_); rintro e W8 ⟨B3, j3, d3, B4, j4, d4, rfl, hs1, hs2, hb7⟩; dsimp only at hs1 hs2 ⊢; refine Hd.out ?_)
                  obtain ⟨Wg, hWg⟩ : ∃ W', W8.alloc (.cells #[.int .i64 m2.regs, .slice B3 j3 d3, .int .i64 m2.ret, .slice B4 j4 d4] 25) = W' := ⟨_, rfl⟩
                  have HB8 := hide (HBF.out.trans (hb7.mono HBF.out.size))
                  have HBG := hide (show Below w.heap.size w Wg by rw [← hWg]; exact HB8.out.alloc HB8.out.size _)
                  have HBU := hide (fun u : Ext => HBG.out.ext HBG.out.size u)
                  have HBV := hide (fun u v : Ext => (HBU.out u).ext (HBU.out u).size v)
                  clear hs1 hs2 hb7 hcw HPA2
                  refine hide ?_
                  go_wp2_with (first
                    | (go_at_call 3; (with_reducible refine (HR.out _ HBG.out _ (by decide)).mono ?_); rintro e _ ⟨rfl, ux, rfl⟩)
                    | (go_at_call 3; (with_reducible refine (HR.out _ (HBU.out _) _ (by decide)).mono ?_); rintro e _ ⟨rfl, ux, rfl⟩)
                    | (go_at_call 6; (with_reducible refine (HA.out _ (HBV.out _ _)).mono ?_); rintro e _ ⟨rfl, ux, rfl⟩))
                  go_ret
                  first | exact ⟨rfl, ((HBV.out _ _).ext (HBV.out _ _).size _).to_ext⟩ | (trace_state; sorry)
end Go.Proofs.YtcfimcghckjmeaaGreatDoor
