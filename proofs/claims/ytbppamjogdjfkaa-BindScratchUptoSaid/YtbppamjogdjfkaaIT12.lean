/- law24: walks: the chapter's example. -/
import Derived.Test.YtbppamjogdjfkaaIT11
import Derived.Test.YtbppamjogdjfkaaN6
import Derived.Test.YtbppamjogdjfkaaN2
set_option linter.unusedSimpArgs false
set_option linter.unusedVariables false
namespace Go.Proofs.Ytbppamjogdjfkaa
open Go.RowKit Go.Shelf Go.Maps

def m24 : Machine := ⟨4, [0, 1], 0, [2, 3]⟩
def p24 : Part := ⟨-1, [5, 6], [2, 0], [0, 3]⟩
theorem pools_m24 : safe24 m24 1 = [2, 3] ∧ plain24 m24 1 = [0] ∧ scratch24 m24 1 = [1] := by decide +kernel
theorem of_m24 : of24 m24 1 [p24] = ([[0, 3]], 0) := by decide +kernel
theorem ints24 {xs : List Int} (h : (xs.all fun x => decide (-100 ≤ x) && decide (x ≤ 100)) = true) : ∀ x ∈ xs, InI x := by
  intro x hx
  have := List.all_eq_true.1 h x hx
  simp only [Bool.and_eq_true, decide_eq_true_eq] at this
  unfold InI; omega
theorem lit24 (W : World) (xs : List Int) (h : (xs.all fun x => decide (-100 ≤ x) && decide (x ≤ 100)) = true) (hl : xs.length ≤ 100) : Sl (W.alloc (.cells (xs.map (Value.int .i64)).toArray 3)) (fun _ => True) (some ⟨W.heap.size, 0, none⟩) xs.length xs.length xs :=
  Sl.lit (S := fun _ => False) (us := xs.map (Value.int .i64)) rfl (RepL.ints xs (ints24 h)) rfl (by omega) (fun _ h => h.elim) trivial
/-- It returns the chapter's machine in new memory. -/
def RetM24 (w : World) (e : Ending) (w' : World) : Prop :=
  ∃ A1 c1 A2 c2, e = .returned (.agg #[.int .i64 4, .slice A1 2 c1, .int .i64 0, .slice A2 2 c2]) ∧ Sl w' (fun _ => True) A1 2 c1 m24.args ∧ Sl w' (fun _ => True) A2 2 c2 m24.saved ∧ Below w.heap.size w w'
theorem size_mach24 : (Try.prog.info? 24).map (·.size) = some 4 := by kernel_rfl
theorem results_mach24 {fn : Func} {p : Tmp} {g : Nat} {a1 a2 a3 a4 : Value} (h : fn.results = #[.cell p 24]) (tmps : Array Value) (w : World)
    (hp : tmps.getD p undef = .pointer (some ⟨g, 0, none⟩)) (hg : w.heap[g]? = some (.cells #[a1, a2, a3, a4] 24 (0, 0))) : (results fn tmps).run Try.prog w = .ok (.agg #[a1, a2, a3, a4]) w := by
  have hl := run_loadVar_row w g _ _ _ (0, 0) _ hg Try.underlying24 rfl size_mach24
  have hp' : tmps[p]?.getD undef = .pointer (some ⟨g, 0, none⟩) := by simpa using hp
  simp [results, h, hp', asAddr, hl]
set_option maxRecDepth 100000 in
set_option maxHeartbeats 4000000 in
theorem machine24_any (w : World) : Calls Try.prog 16 #[] w (RetM24 w) := by
  go_enter Try.func16, Try.ntmps16
  go_wp2
  refine bodyPost_ret (v := .agg #[.int .i64 4, .slice (some ⟨w.heap.size + 1, 0, none⟩) 2 2, .int .i64 0, .slice (some ⟨w.heap.size + 1 + 1, 0, none⟩) 2 2]) (results_mach24 Try.results16 _ _ rfl ?hrow) rfl ?_
  case hrow =>
    rw [Below.heap_alloc _ _ _ (by simp; omega), Below.heap_alloc _ _ _ (by simp)]
    exact heap_alloc_new w _
  refine ⟨_, _, _, _, rfl, ?_, ?_, (by repeat (first | exact Below.refl _ _ | assumption | refine Below.alloc ?_ (by simp [size_ext]; try omega) _ | refine Below.ext ?_ (by simp [size_ext]; try omega) _ | refine Below.drew ?_ | refine Below.setCell ?_ (by simp [size_ext]; try omega) _))⟩
  · have := (lit24 (w.alloc (.cells #[.int .i64 4, .slice (some ⟨w.heap.size + 1, 0, none⟩) 2 2, .int .i64 0, .slice (some ⟨w.heap.size + 1 + 1, 0, none⟩) 2 2] 24)) [0, 1] (by decide) (by decide)).alloc (.cells #[.int .i64 2, .int .i64 3] 3)
    simp only [World.size_alloc] at this
    exact this
  · have := lit24 ((w.alloc (.cells #[.int .i64 4, .slice (some ⟨w.heap.size + 1, 0, none⟩) 2 2, .int .i64 0, .slice (some ⟨w.heap.size + 1 + 1, 0, none⟩) 2 2] 24)).alloc (.cells #[.int .i64 0, .int .i64 1] 3)) [2, 3] (by decide) (by decide)
    simp only [World.size_alloc] at this
    exact this
theorem lit_part (W : World) (p : Part) (hp : InI p.parent) {A1 A2 A3 : Option Addr} {n1 c1 n2 c2 n3 c3 : Nat} (h1 : Sl W (fun _ => True) A1 n1 c1 p.vars) (h2 : Sl W (fun _ => True) A2 n2 c2 p.colors) (h3 : Sl W (fun _ => True) A3 n3 c3 p.wish) :
    Sl (W.alloc (.cells #[.int .i64 p.parent, .slice A1 n1 c1, .slice A2 n2 c2, .slice A3 n3 c3] 38)) (fun _ => True) (some ⟨W.heap.size, 0, none⟩) 1 1 [p] :=
  Sl.lit (S := fun _ => True) (S' := fun _ => True) (us := [.int .i64 p.parent, .slice A1 n1 c1, .slice A2 n2 c2, .slice A3 n3 c3]) rfl (RepL.single (Part.mk_ hp h1 h2 h3)) rfl (by simp) (fun _ _ => trivial) trivial
set_option maxHeartbeats 1000000 in
/-- is a number one of some? -/
theorem among24_any (w : World) (S : Nat → Prop) (A : Option Addr) (n c : Nat) (xs : List Int) (h : Sl w S A n c xs) (v : Int) : Calls Try.prog 12 #[.slice A n c, .int .i64 v] w (Ret (.bool (hasI v xs)) w) := by
  have hn := h.nle
  have HL := hide h.len
  have HS := hide h
  clear h
  go_enter Try.func12, Try.ntmps12
  go_wp2
  go_loopw [5] (fun i wr => ∃ k : Nat, k ≤ n ∧ i = .int .i64 k ∧ hasI v xs = hasI v (xs.drop k) ∧ wr = w) (fun i _ => n - (intOf i).toNat)
  case atStart => exact ⟨0, Nat.zero_le _, rfl, rfl, rfl⟩
  case round =>
    obtain ⟨k, hk, rfl, hr, rfl⟩ := hrel
    have HR := hide hr; clear hr
    by_cases hlt : k < n
    · obtain ⟨b, off, x, rfl, hb, hx, hxi, c0⟩ := at_int HS.out hlt
      have HX := hide (drop_at hx); clear hx
      by_cases hv : x = v
      · subst hv
        go_wp2_with fail
        go_ret
        exact Ret.b (by rw [HR.out, HX.out]; exact ((hasI_iff _ _).2 (by simp)).symm)
      · have HV := hide hv
        go_wp2_with fail
        go_roundw
        case rel => exact ⟨k + 1, by omega, by go_num, by
          rw [HR.out, HX.out, Bool.eq_iff_iff, hasI_iff, hasI_iff, List.mem_cons]
          exact ⟨fun h => h.resolve_left fun e => HV.out e.symm, .inr⟩, trivial⟩
        case measure => simp [intOf]; omega
    · go_wp2_with fail
      go_ret
      exact Ret.b (by rw [HR.out, drop_end HL.out hlt]; rfl)
set_option maxRecDepth 100000 in
set_option maxHeartbeats 8000000 in
theorem awake24_any (w : World) : Calls Try.prog 5 #[] w (RetX (.bool true) w) := by
  have im : InI m24.ret := by unfold InI m24; simp
  go_enter Try.func5, Try.ntmps5
  go_wp2_with (go_at_call 16; refine (machine24_any _).mono ?_; rintro e W1 ⟨A1, c1, A2, c2, rfl, s1, s2, hb1⟩; refine Hd.out ?_)
  have HPO := hide (show Calls Try.prog 10 #[.agg #[.int .i64 4, .slice A1 2 c1, .int .i64 0, .slice A2 2 c2], .int .i64 1] W1 (RetPools (safe24 m24 1) (plain24 m24 1) W1) from pools24_any W1 (fun _ => True) (fun _ => True) m24 A1 A2 2 c1 2 c2 s1 s2 im 1)
  have HB1 := hide hb1
  clear s1 s2 hb1
  rw [pools_m24.1, pools_m24.2.1] at HPO
  refine hide ?_
  go_wp2_with (go_at_call 10; (with_reducible refine HPO.out.mono ?_); rintro e W2 ⟨v1, v2, rfl, ho1, ho2, hap, hb2⟩; obtain ⟨As, cs, rfl⟩ := ho1.form; obtain ⟨Ap, cp, rfl⟩ := ho2.form; refine Hd.out ?_)
  dsimp only [List.length_cons, List.length_nil] at ho1 ho2 ⊢
  have HB2 := hide (HB1.out.trans (hb2.mono HB1.out.size))
  have HSS := hide (ho1.sl (S' := fun _ => True) fun _ _ _ => trivial)
  have HSP := hide (ho2.sl (S' := fun _ => True) fun _ _ _ => trivial)
  clear ho1 ho2 hap hb2 HPO HB1
  refine hide ?_
  go_wp2_with (go_at_call 16; refine (machine24_any _).mono ?_; rintro e W3 ⟨A3, c3, A4, c4, rfl, s3, s4, hb3⟩; refine Hd.out ?_)
  have HB3 := hide (HB2.out.trans (hb3.mono HB2.out.size))
  have HSS3 := hide (HSS.out.belowAll hb3)
  have HSP3 := hide (HSP.out.belowAll hb3)
  obtain ⟨b3, hb3'⟩ : ∃ b, W3.heap.size = b := ⟨_, rfl⟩
  have h5 := (((lit24 W3 [5, 6] (by decide) (by decide)).alloc (.cells #[.int .i64 2, .int .i64 0] 3)).alloc (.cells #[.int .i64 0, .int .i64 3] 3))
  have h6 := ((lit24 (W3.alloc (.cells #[.int .i64 5, .int .i64 6] 3)) [2, 0] (by decide) (by decide)).alloc (.cells #[.int .i64 0, .int .i64 3] 3))
  have h7 := lit24 ((W3.alloc (.cells #[.int .i64 5, .int .i64 6] 3)).alloc (.cells #[.int .i64 2, .int .i64 0] 3)) [0, 3] (by decide) (by decide)
  have h8 := lit_part _ p24 (by unfold InI p24; simp) h5 h6 h7
  simp only [World.size_alloc] at h8
  have HOF := hide (show Calls Try.prog 8 #[.agg #[.int .i64 4, .slice A3 2 c3, .int .i64 0, .slice A4 2 c4], .int .i64 1, .slice (some ⟨W3.heap.size + 1 + 1 + 1, 0, none⟩) 1 1] ((((W3.alloc (.cells #[.int .i64 5, .int .i64 6] 3)).alloc (.cells #[.int .i64 2, .int .i64 0] 3)).alloc (.cells #[.int .i64 0, .int .i64 3] 3)).alloc (.cells #[.int .i64 (-1), .slice (some ⟨W3.heap.size, 0, none⟩) 2 2, .slice (some ⟨W3.heap.size + 1, 0, none⟩) 2 2, .slice (some ⟨W3.heap.size + 1 + 1, 0, none⟩) 2 2] 38)) _ from
    of24_any _ (fun _ => True) (fun _ => True) (fun _ => True) m24 A3 A4 2 c3 2 c4 ((((s3.alloc _).alloc _).alloc _).alloc _) ((((s4.alloc _).alloc _).alloc _).alloc _) im 1 (some ⟨W3.heap.size + 1 + 1 + 1, 0, none⟩) 1 1 [p24] h8 (by omega))
  rw [of_m24] at HOF
  clear h5 h6 h7 h8 s3 s4 hb3 hb3' HSS HSP HB2 b3
  refine hide ?_
  go_wp2_with (go_at_call 8; (with_reducible refine HOF.out.mono ?_); rintro e W4 ⟨v3, hs, rfl, hlen, ho, hrows, hb4⟩; obtain ⟨A5, c5, rfl⟩ := ho.form; refine Hd.out ?_)
  obtain ⟨b4, hb4'⟩ : ∃ b, ((((W3.alloc (.cells #[.int .i64 5, .int .i64 6] 3)).alloc (.cells #[.int .i64 2, .int .i64 0] 3)).alloc (.cells #[.int .i64 0, .int .i64 3] 3)).alloc (.cells #[.int .i64 (-1), .slice (some ⟨W3.heap.size, 0, none⟩) 2 2, .slice (some ⟨W3.heap.size + 1, 0, none⟩) 2 2, .slice (some ⟨W3.heap.size + 1 + 1, 0, none⟩) 2 2] 38)).heap.size = b := ⟨_, rfl⟩
  have h34 : Below W3.heap.size W3 W4 := (((((Below.refl _ _).alloc (Nat.le_refl _) _).alloc (by simp) _).alloc (by simp; omega) _).alloc (by simp; omega) _).trans (hb4.mono (by simp; omega))
  rw [hb4'] at ho hrows
  obtain ⟨h0, rfl⟩ : ∃ h0, hs = [h0] := by
    match hs, hlen with
    | [h0], _ => exact ⟨h0, rfl⟩
  have r0 := hrows.own 0 h0 rfl
  obtain ⟨a0, n0, d0⟩ := h0
  obtain rfl : n0 = 2 := by obtain ⟨A, c, e⟩ := r0.form; injection e
  obtain ⟨bb, ob, x, rfl, hbb, -, hx, hcell⟩ := at_hdr (ho.slo (S' := fun _ => True) fun _ _ _ => trivial) (show 0 < [(⟨a0, 2, d0⟩ : Hdr)].length from Nat.zero_lt_one)
  simp at hx
  subst hx
  dsimp only [Nat.add_zero] at hcell
  have HCE := hide (fun (W : World) (hb : Below W4.heap.size W4 W) => (show W.cell? ⟨bb, ob, none⟩ = some (.slice a0 2 d0) ∧ bb < W.heap.size from ⟨by rw [hb.cell hbb]; exact hcell, by have := hb.size; omega⟩))
  have HS0 := hide (show Sl W4 (fun _ => True) a0 2 d0 ([0, 3] : List Int) from r0.sl fun _ _ _ => trivial)
  have HB4 := hide (HB3.out.trans (h34.mono HB3.out.size))
  have HSS4 := hide (show Sl W4 (fun _ => True) As 2 cs ([2, 3] : List Int) from HSS3.out.belowAll h34)
  have HSP4 := hide (show Sl W4 (fun _ => True) Ap 1 cp ([0] : List Int) from HSP3.out.belowAll h34)
  clear hb4 hb4' h34 ho hrows r0 hcell HOF HSS3 HSP3 HB3
  refine hide ?_
  go_wp2_with (go_at_call 16; refine (machine24_any _).mono ?_; rintro e W5 ⟨A6, c6, A7, c7, rfl, s5, s6, hb5⟩; refine Hd.out ?_)
  have HSC := hide (show Calls Try.prog 11 #[.agg #[.int .i64 4, .slice A6 2 c6, .int .i64 0, .slice A7 2 c7], .int .i64 1] W5 (RetInts (scratch24 m24 1) W5) from scratch24_any W5 (fun _ => True) (fun _ => True) m24 A6 A7 2 c6 2 c7 s5 s6 im 1)
  rw [pools_m24.2.2] at HSC
  have HB5 := hide hb5
  clear s5 s6 hb5
  refine hide ?_
  go_wp2_with (go_at_call 11; (with_reducible refine HSC.out.mono ?_); rintro e W6 ⟨v6, rfl, ho6, hb6⟩; obtain ⟨A8, c8, rfl⟩ := ho6.form; refine Hd.out ?_)
  dsimp only [List.length_cons, List.length_nil] at ho6 ⊢
  have h46 : Below W4.heap.size W4 W6 := HB5.out.trans (hb6.mono HB5.out.size)
  have HB6 := hide h46
  have HS6 := hide (show Sl W6 (fun _ => True) A8 1 c8 ([1] : List Int) from ho6.sl fun _ _ _ => trivial)
  clear h46 ho6 hb6 HB5 HSC
  refine hide ?_
  go_wp2_with (go_at_call 14; refine (sameInts_any _ (fun _ => True) (fun _ => True) _ _ _ _ _ [1] (HS6.out.alloc _) (lit24 W6 [1] (by decide) (by decide))).mono ?_; rintro e W7 ⟨rfl, hu7⟩; refine Hd.out ?_)
  have HB7 := hide (show Below W4.heap.size W4 W7 by obtain ⟨u, rfl⟩ := hu7; exact (HB6.out.alloc HB6.out.size _).ext (by simp; have := HB6.out.size; omega) u)
  have HS7 := hide (HSS4.out.belowAll HB7.out)
  clear hu7
  refine hide ?_
  go_wp2_with (go_at_call 14; refine (sameInts_any _ (fun _ => True) (fun _ => True) _ _ _ _ _ [2, 3] (HS7.out.alloc _) (lit24 W7 [2, 3] (by decide) (by decide))).mono ?_; rintro e W8 ⟨rfl, hu8⟩; refine Hd.out ?_)
  have HB8 := hide (show Below W4.heap.size W4 W8 by obtain ⟨u, rfl⟩ := hu8; exact (HB7.out.alloc HB7.out.size _).ext (by simp; have := HB7.out.size; omega) u)
  have HS8 := hide (HSP4.out.belowAll HB8.out)
  clear hu8
  refine hide ?_
  go_wp2_with (go_at_call 14; refine (sameInts_any _ (fun _ => True) (fun _ => True) _ _ _ _ _ [0] (HS8.out.alloc _) (lit24 W8 [0] (by decide) (by decide))).mono ?_; rintro e W9 ⟨rfl, hu9⟩; refine Hd.out ?_)
  have HB9 := hide (show Below W4.heap.size W4 W9 by obtain ⟨u, rfl⟩ := hu9; exact (HB8.out.alloc HB8.out.size _).ext (by simp; have := HB8.out.size; omega) u)
  have HS9 := hide (HS0.out.belowAll HB9.out)
  obtain ⟨hc9, hbb9⟩ := HCE.out W9 HB9.out
  clear hu9 hbb
  refine hide ?_
  go_wp2_with (go_at_call 14; refine (sameInts_any _ (fun _ => True) (fun _ => True) _ _ _ _ _ [0, 3] (HS9.out.alloc _) (lit24 W9 [0, 3] (by decide) (by decide))).mono ?_; rintro e W10 ⟨rfl, hu10⟩)
  go_ret
  obtain ⟨u, rfl⟩ := hu10
  have q := HB4.out.trans (HB9.out.mono HB4.out.size)
  exact RetX.b rfl ((q.alloc q.size _).ext (by simp; have := q.size; omega) u)
end Go.Proofs.Ytbppamjogdjfkaa
