/- WordEnds: its walk. -/
import Derived.Test.YtmlopggainkoiaaDoorSH6
set_option linter.unusedSimpArgs false
set_option linter.unusedVariables false
namespace Go.Proofs.YtmlopggainkoiaaDoor
open Go.RowKit

theorem lit_size (l : List UInt8) : (ByteArray.mk l.toArray).size = l.length := by show l.toArray.size = _; simp
theorem belowAlloc {w W : World} (h : Hd (Below w.heap.size w W)) (o : Obj) : Below w.heap.size w (W.alloc o) := h.out.alloc h.out.size o
theorem belowAlloc2 {w W : World} (h : Hd (Below w.heap.size w W)) (o o' : Obj) : Below w.heap.size w ((W.alloc o).alloc o') := (h.out.alloc h.out.size o).alloc (by simp; have := h.out.size; omega) o'
theorem below_from {B : Nat} {a b : World} (h : Below a.heap.size a b) (hB : B ≤ a.heap.size) : Below B a b := ⟨h.os, h.tape, h.output, h.size, fun k hk => h.block k (by omega)⟩
def IsI32 (v : Value) : Prop := ∃ r : Int, v = .int .i32 r
theorem i32_at {W : World} {g k : Nat} {cs : Array Value} {T : TypeId} {fz : Nat × Nat} (h : W.heap[g]? = some (.cells cs T fz)) (hc : ∀ v ∈ cs.toList, IsI32 v) (hk : k < cs.size) : ∃ r : Int, W.cell? ⟨g, k, none⟩ = some (.int .i32 r) := by
  obtain ⟨r, hr⟩ := hc cs[k] (by simp)
  refine ⟨r, ?_⟩
  rw [cell_of_row W g _ cs T fz h, Array.getElem?_eq_getElem hk, hr]
def U8 (v : Value) : Prop := ∃ z : Int, v = .int .u8 z ∧ 0 ≤ z ∧ z < 256
theorem u8s2 {a b : Int} (ha : 0 ≤ a ∧ a < 256) (hb : 0 ≤ b ∧ b < 256) : ∀ v ∈ (#[.int .u8 a, .int .u8 b] : Array Value).toList, ∃ z : Int, v = .int .u8 z ∧ 0 ≤ z ∧ z < 256 := by
  intro v hv
  simp only [List.mem_cons, List.not_mem_nil, or_false] at hv
  rcases hv with rfl | rfl
  · exact ⟨_, rfl, ha⟩
  · exact ⟨_, rfl, hb⟩
theorem u8s3 {a b c : Int} (ha : 0 ≤ a ∧ a < 256) (hb : 0 ≤ b ∧ b < 256) (hc : 0 ≤ c ∧ c < 256) : ∀ v ∈ (#[.int .u8 a, .int .u8 b, .int .u8 c] : Array Value).toList, ∃ z : Int, v = .int .u8 z ∧ 0 ≤ z ∧ z < 256 := by
  intro v hv
  simp only [List.mem_cons, List.not_mem_nil, or_false] at hv
  rcases hv with rfl | rfl | rfl
  · exact ⟨_, rfl, ha⟩
  · exact ⟨_, rfl, hb⟩
  · exact ⟨_, rfl, hc⟩
theorem u8s4 {a b c d : Int} (ha : 0 ≤ a ∧ a < 256) (hb : 0 ≤ b ∧ b < 256) (hc : 0 ≤ c ∧ c < 256) (hd : 0 ≤ d ∧ d < 256) : ∀ v ∈ (#[.int .u8 a, .int .u8 b, .int .u8 c, .int .u8 d] : Array Value).toList, ∃ z : Int, v = .int .u8 z ∧ 0 ≤ z ∧ z < 256 := by
  intro v hv
  simp only [List.mem_cons, List.not_mem_nil, or_false] at hv
  rcases hv with rfl | rfl | rfl | rfl
  · exact ⟨_, rfl, ha⟩
  · exact ⟨_, rfl, hb⟩
  · exact ⟨_, rfl, hc⟩
  · exact ⟨_, rfl, hd⟩

set_option maxRecDepth 100000 in
set_option maxHeartbeats 40000000 in
theorem wordEnds_any (w : World) (hv : VarsS w) : Calls Tryd.prog 6 #[] w (RetX (.bool true) w) := by
  have HR := hide (reads_b w hv)
  have HW := hide (shows_b w hv)
  have HV := hide hv
  clear hv
  go_enter Tryd.func6, Tryd.ntmps6
  go_wp2_with fail
  go_loopw [1] (fun i wr => ∃ k : Nat, k ≤ 1280 ∧ i = .int .i32 k ∧ Below w.heap.size w wr) (fun i _ => 1280 - (intOf i).toNat)
  case atStart => exact ⟨0, Nat.zero_le _, rfl, Below.refl _ _⟩
  case round =>
    obtain ⟨k, hk, rfl, hb⟩ := hrel
    have HB := hide hb
    have hsz := hb.size
    clear hb
    by_cases hlt : k < 1280
    · have hcv := run_convert_runes (P := Tryd.prog) (wr.alloc (.cells #[.int .i32 (k : Int)] 21)) 28 9 21 ⟨wr.heap.size, 0, none⟩ 1 1 [(k : Int)] (by simp) Tryd.underlying28 Tryd.underlying21 Tryd.underlying9 (fun j hj => by
        have hj0 : j = 0 := by simp at hj; exact hj
        subst hj0
        rw [Addr.add_lit]
        exact cell_of_row _ wr.heap.size _ _ _ (0, 0) (heap_alloc_new wr _))
      have hs4 := runesBytes_size_le ([(k : Int)].take 1)
      generalize runesBytes ([(k : Int)].take 1) = s at hcv hs4
      have hs : s.size ≤ 4 := by simpa using hs4
      clear hs4
      go_wp2_with (first | (simp only [hcv]) | (go_at_call 4; refine (HR.out _ _ (by (first | omega | (simp only [ByteArray.size_append, lit_size, List.length_cons, List.length_nil]; omega))) (by (first | exact Hd.out (by assumption) | exact belowAlloc (by assumption) _ | exact belowAlloc2 (by assumption) _ _))).mono ?_; rintro e w' ⟨rfl, hb'⟩; have HB' := hide hb'; clear hb') | (go_at_call 5; refine (HW.out _ _ (by (first | exact Hd.out (by assumption) | exact belowAlloc (by assumption) _ | exact belowAlloc2 (by assumption) _ _))).mono ?_; rintro e w' ⟨rfl, hb'⟩; have HB' := hide hb'; clear hb') | (simp (disch := (first | omega | (simp only [ByteArray.size_append, lit_size, List.length_cons, List.length_nil]; omega))) only [run_string_add_sum]))
      go_roundw
      case rel => exact ⟨k + 1, by omega, by go_num, HB'.out⟩
      case measure => simp [intOf]; omega
    · go_wp2_with fail
      obtain ⟨W2, hW2⟩ : ∃ W2, wr.alloc (.cells #[.int .i32 2047, .int .i32 2048, .int .i32 8585, .int .i32 8592, .int .i32 8593, .int .i32 8594, .int .i32 8595, .int .i32 55295, .int .i32 57344, .int .i32 65533, .int .i32 65534, .int .i32 65535, .int .i32 65536, .int .i32 1114111] 21) = W2 := ⟨_, rfl⟩
      have HE := hide (show W2.heap[wr.heap.size]? = some (.cells #[.int .i32 2047, .int .i32 2048, .int .i32 8585, .int .i32 8592, .int .i32 8593, .int .i32 8594, .int .i32 8595, .int .i32 55295, .int .i32 57344, .int .i32 65533, .int .i32 65534, .int .i32 65535, .int .i32 65536, .int .i32 1114111] 21 (0, 0)) by rw [← hW2]; exact heap_alloc_new wr _)
      have HB2 := hide (show Below w.heap.size w W2 by rw [← hW2]; exact HB.out.alloc hsz _)
      have HV2 := hide (HV.out.below HB2.out HV.out.v.sz)
      have HG := hide (show wr.heap.size < W2.heap.size by rw [← hW2]; simp)
      have HC0 := hide (fun (W : World) (hb : Below W2.heap.size W2 W) (k : Nat) (hk : k < 14) => i32_at ((hb.block _ HG.out).trans HE.out) (by simp [IsI32]) hk)
      have HR2 := hide (reads_b W2 HV2.out)
      have HW2 := hide (shows_b W2 HV2.out)
      have HA2 := hide (awake_b W2 HV2.out)
      clear HR HW HV HV2 HE HB hsz
      rw [hW2]
      clear hW2 hlt hk
      obtain ⟨g, hg⟩ : ∃ g, wr.heap.size = g := ⟨_, rfl⟩
      rw [hg] at HG HC0 ⊢
      clear hg
      go_loopw [4] (fun i wz => ∃ k : Nat, k ≤ 14 ∧ i = .int .i64 k ∧ Below W2.heap.size W2 wz) (fun i _ => 14 - (intOf i).toNat)
      case atStart => exact ⟨0, Nat.zero_le _, rfl, Below.refl _ _⟩
      case round =>
        obtain ⟨k, hk, rfl, hb⟩ := hrel
        have HB := hide hb
        have hsz := hb.size
        by_cases hlt : k < 14
        · obtain ⟨r, hr⟩ := HC0.out wr hb k hlt
          clear hb
          have hcv := run_convert_runes (P := Tryd.prog) (wr.alloc (.cells #[.int .i32 r] 21)) 28 9 21 ⟨wr.heap.size, 0, none⟩ 1 1 [r] (by simp) Tryd.underlying28 Tryd.underlying21 Tryd.underlying9 (fun j hj => by
            have hj0 : j = 0 := by simp at hj; exact hj
            subst hj0
            rw [Addr.add_lit]
            exact cell_of_row _ wr.heap.size _ _ _ (0, 0) (heap_alloc_new wr _))
          have hs4 := runesBytes_size_le ([r].take 1)
          generalize runesBytes ([r].take 1) = s at hcv hs4
          have hs : s.size ≤ 4 := by simpa using hs4
          clear hs4
          go_wp2_with (first | (simp only [hcv]) | (go_at_call 4; refine (HR2.out _ _ (by (first | omega | (simp only [ByteArray.size_append, lit_size, List.length_cons, List.length_nil]; omega))) (by (first | exact Hd.out (by assumption) | exact belowAlloc (by assumption) _ | exact belowAlloc2 (by assumption) _ _))).mono ?_; rintro e w' ⟨rfl, hb'⟩; obtain ⟨r', hr'⟩ := HC0.out _ hb' k hlt; have HB' := hide hb'; clear hb') | (go_at_call 5; refine (HW2.out _ _ (by (first | exact Hd.out (by assumption) | exact belowAlloc (by assumption) _ | exact belowAlloc2 (by assumption) _ _))).mono ?_; rintro e w' ⟨rfl, hb'⟩; have HB' := hide hb'; clear hb') | (simp (disch := (first | omega | (simp only [ByteArray.size_append, lit_size, List.length_cons, List.length_nil]; omega))) only [run_string_add_sum]))
          go_roundw
          case rel => exact ⟨k + 1, by omega, by go_num, HB'.out⟩
          case measure => simp [intOf]; omega
        · clear hb HC0 HG
          go_wp2_with fail
          clear hk hlt
          go_loopw [6] (fun i wz => ∃ k : Nat, k ≤ 256 ∧ i = .int .i64 k ∧ Below W2.heap.size W2 wz) (fun i _ => 256 - (intOf i).toNat)
          case atStart => exact ⟨0, Nat.zero_le _, rfl, HB.out⟩
          case round =>
            clear HB hsz
            obtain ⟨x, hx, rfl, hb⟩ := hrel
            have HB := hide hb
            have hsz := hb.size
            clear hb
            by_cases hltx : x < 256
            · have hm : Int.tmod (x : Int) 3 = ((x % 3 : Nat) : Int) := by rw [Int.tmod_eq_emod_of_nonneg (by omega)]; rfl
              obtain ⟨m, hmm⟩ : ∃ m : Nat, x % 3 = m := ⟨_, rfl⟩
              have hm3 : m < 3 := by omega
              rw [hmm] at hm
              clear hmm
              go_wp2_with fail
              go_loopw [7] (fun i wz => ∃ y : Nat, y ≤ 300 ∧ i = .int .i64 y ∧ Below W2.heap.size W2 wz) (fun i _ => 300 - (intOf i).toNat)
              case atStart => exact ⟨0, Nat.zero_le _, rfl, HB.out⟩
              case round =>
                clear HB hsz
                obtain ⟨y, hy, rfl, hb⟩ := hrel
                have HB := hide hb
                have hsz := hb.size
                clear hb
                by_cases hlty : y < 256
                · go_wp2_with (first | (go_at_call 26; refine (bytes_any _ _ 2 _ _ _ (heap_alloc_new _ _) rfl (u8s2 (by omega) (by omega))).mono ?_; rintro e _ ⟨⟨sb, rfl, hsb⟩, rfl⟩) | (go_at_call 4; refine (HR2.out _ _ (by (first | omega | (simp only [ByteArray.size_append, lit_size, List.length_cons, List.length_nil]; omega))) (by (first | exact Hd.out (by assumption) | exact belowAlloc (by assumption) _ | exact belowAlloc2 (by assumption) _ _))).mono ?_; rintro e w' ⟨rfl, hb'⟩; have HB' := hide hb'; clear hb') | (simp (disch := (first | omega | (simp only [ByteArray.size_append, lit_size, List.length_cons, List.length_nil]; omega))) only [run_string_add_sum]))
                  go_roundw
                  case rel => exact ⟨y + 1 + m * 9, by omega, by go_num, HB'.out⟩
                  case measure => simp [intOf]; omega
                · go_wp2_with (first | (go_at_call 26; refine (bytes_any _ _ 3 _ _ _ (heap_alloc_new _ _) rfl (u8s3 (by omega) (by omega) (by omega))).mono ?_; rintro e _ ⟨⟨sb, rfl, hsb⟩, rfl⟩) | (go_at_call 26; refine (bytes_any _ _ 4 _ _ _ (heap_alloc_new _ _) rfl (u8s4 (by omega) (by omega) (by omega) (by omega))).mono ?_; rintro e _ ⟨⟨sb, rfl, hsb⟩, rfl⟩) | (go_at_call 4; refine (HR2.out _ _ (by (first | omega | (simp only [ByteArray.size_append, lit_size, List.length_cons, List.length_nil]; omega))) (by (first | exact Hd.out (by assumption) | exact belowAlloc (by assumption) _ | exact belowAlloc2 (by assumption) _ _))).mono ?_; rintro e w' ⟨rfl, hb'⟩; have HB' := hide hb'; clear hb') | (simp (disch := (first | omega | (simp only [ByteArray.size_append, lit_size, List.length_cons, List.length_nil]; omega))) only [run_string_add_sum]))
                  go_roundw
                  case rel => exact ⟨x + 1, by omega, by go_num, HB'.out⟩
                  case measure => simp [intOf]; omega
            · go_wp2_with fail
              clear hx hltx
              go_loopw [8, 9, 10] (fun a b i wz => ∃ (k : Nat) (nm dg : ByteArray), k ≤ 20 ∧ a = .string nm ∧ b = .string dg ∧ i = .int .i64 k ∧ nm.size ≤ k ∧ dg.size ≤ k + 1 ∧ Below W2.heap.size W2 wz) (fun _ _ i _ => 20 - (intOf i).toNat)
              case atStart => exact ⟨0, _, _, Nat.zero_le _, rfl, rfl, rfl, Nat.le_refl _, Nat.le_refl _, HB.out⟩
              case round =>
                clear HB hsz
                obtain ⟨k, nm, dg, hk, rfl, rfl, rfl, hnm, hdg, hb⟩ := hrel
                have HB := hide hb
                have hsz := hb.size
                clear hb
                by_cases hltk : k < 20
                · go_wp2_with (first | (go_at_call 4; refine (HR2.out _ _ (by (first | omega | (simp only [ByteArray.size_append, lit_size, List.length_cons, List.length_nil]; omega))) (by (first | exact Hd.out (by assumption) | exact belowAlloc (by assumption) _ | exact belowAlloc2 (by assumption) _ _))).mono ?_; rintro e w' ⟨rfl, hb'⟩; have HB' := hide hb'; clear hb') | (simp (disch := (first | omega | (simp only [ByteArray.size_append, lit_size, List.length_cons, List.length_nil]; omega))) only [run_string_add_sum]))
                  go_roundw
                  case rel => exact ⟨k + 1, _, _, by omega, rfl, rfl, by go_num, by simp only [ByteArray.size_append, lit_size, List.length_cons, List.length_nil]; omega, by simp only [ByteArray.size_append, lit_size, List.length_cons, List.length_nil]; omega, HB'.out⟩
                  case measure => simp [intOf]; omega
                · go_wp2_with (first | (go_at_call 4; refine (HR2.out _ _ (by (first | omega | (simp only [ByteArray.size_append, lit_size, List.length_cons, List.length_nil]; omega))) (by (first | exact Hd.out (by assumption) | exact belowAlloc (by assumption) _ | exact belowAlloc2 (by assumption) _ _))).mono ?_; rintro e w' ⟨rfl, hb'⟩; have HB' := hide hb'; clear hb') | (go_at_call 12; refine (HA2.out _ (by (first | exact Hd.out (by assumption) | exact belowAlloc (by assumption) _ | exact belowAlloc2 (by assumption) _ _))).mono ?_; rintro e w' ⟨rfl, hb'⟩; have HB' := hide hb'; clear hb'))
                  go_ret
                  exact RetX.b rfl (HB2.out.trans (below_from HB'.out HB2.out.size))
end Go.Proofs.YtmlopggainkoiaaDoor
