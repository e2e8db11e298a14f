/- law28: walks: which of two facts is ahead. -/
import Derived.Test.YtppkanniefignaaGreatDoorB28
import Derived.Test.YtppkanniefignaaGreatDoorG3
import Derived.Test.YtppkanniefignaaGreatDoorW3
set_option linter.unusedSimpArgs false
set_option linter.unusedVariables false
namespace Go.Proofs.YtppkanniefignaaGreatDoor
open Go.RowKit

def orI : List Int → Int
  | [] => 0
  | x :: l => if x ≠ 0 then x else orI l
theorem isNaN28_any (a : Int) (w : World) : Calls Tryz.prog 151 #[.int .i64 a] w (Ret (.bool false) w) := by
  go_enter Tryz.func151, Tryz.ntmps151
  go_wp2; go_ret; exact ⟨by simp, rfl⟩
theorem cmp28_any (a b : Int) (w : World) : Calls Tryz.prog 113 #[.int .i64 a, .int .i64 b] w (Ret (.int .i64 (cmpI a b)) w) := by
  unfold cmpI
  rcases Int.lt_trichotomy a b with h | h | h
  · have h1 : decide (a < b) = true := by simpa using h
    rw [if_pos h]
    go_enter Tryz.func113, Tryz.ntmps113
    go_wp2_with (first | (go_at_call 151; refine (isNaN28_any _ _).mono ?_; rintro e w' ⟨rfl, rfl⟩))
    go_ret; exact ⟨rfl, rfl⟩
  · subst h
    rw [if_neg (by omega), if_neg (by omega)]
    go_enter Tryz.func113, Tryz.ntmps113
    go_wp2_with (first | (go_at_call 151; refine (isNaN28_any _ _).mono ?_; rintro e w' ⟨rfl, rfl⟩))
    go_ret; exact ⟨rfl, rfl⟩
  · have h1 : decide (a < b) = false := by simp; omega
    have h2 : decide (b < a) = true := by simpa using h
    rw [if_neg (by omega), if_pos h]
    go_enter Tryz.func113, Tryz.ntmps113
    go_wp2_with (first | (go_at_call 151; refine (isNaN28_any _ _).mono ?_; rintro e w' ⟨rfl, rfl⟩))
    go_ret; exact ⟨rfl, rfl⟩
theorem or28_any (w : World) (S : Nat → Prop) (A : Option Addr) (n c : Nat) (xs : List Int) (h : Sl w S A n c xs) : Calls Tryz.prog 112 #[.slice A n c] w (RetX (.int .i64 (orI xs)) w) := by
  have hn := h.nle
  have HL := hide h.len
  have HS := hide h
  clear h
  go_enter Tryz.func112, Tryz.ntmps112
  go_wp2_with fail
  go_loopw [8] (fun i wr => ∃ k : Nat, k ≤ n ∧ i = .int .i64 k ∧ orI xs = orI (xs.drop k) ∧ ∃ u, wr = w.ext u) (fun i _ => n - (intOf i).toNat)
  case atStart => exact ⟨0, Nat.zero_le _, rfl, rfl, ext_refl _⟩
  case round =>
    obtain ⟨k, hk, rfl, hr, u, rfl⟩ := hrel
    have HR := hide hr; clear hr
    by_cases hlt : k < n
    · obtain ⟨b, off, x, rfl, hb, hx, hxi, c0⟩ := at_int (HS.out.ext u) hlt
      have HX := hide (drop_at hx); clear hx
      by_cases hv : x = 0
      · have hv2 : (x != 0) = false := by simp [hv]
        have HV := hide hv; clear hv
        go_wp2_with fail
        go_roundw
        case rel => exact ⟨k + 1, by omega, by go_num, by rw [HR.out, HX.out]; simp [orI, HV.out], u, rfl⟩
        case measure => simp [intOf]; omega
      · have hv2 : (x != 0) = true := by simpa using hv
        have HV := hide hv; clear hv
        go_wp2_with fail
        go_ret
        exact RetX.i (by rw [HR.out, HX.out]; simp [orI, HV.out]) (by repeat (first | exact Below.refl _ _ | assumption | refine Below.alloc ?_ (by simp [size_ext]; try omega) _ | refine Below.ext ?_ (by simp [size_ext]; try omega) _ | refine Below.drew ?_ | refine Below.setCell ?_ (by simp [size_ext]; try omega) _))
    · go_wp2_with fail
      go_ret
      exact RetX.i (by rw [HR.out, drop_end HL.out hlt]; rfl) (by repeat (first | exact Below.refl _ _ | assumption | refine Below.alloc ?_ (by simp [size_ext]; try omega) _ | refine Below.ext ?_ (by simp [size_ext]; try omega) _ | refine Below.drew ?_ | refine Below.setCell ?_ (by simp [size_ext]; try omega) _))
theorem sort28_any (w : World) (v : Int) (s : Bool) (n : Int) : Calls Tryz.prog 111 #[.agg #[.int .i64 v, .bool s, .int .i64 n]] w (RetX (.int .i64 (sortF ⟨v, ⟨s, n⟩⟩)) w) := by
  cases s
  all_goals
    go_enter Tryz.func111, Tryz.ntmps111
    go_wp2_with fail
    go_ret
    exact RetX.i rfl (by repeat (first | exact Below.refl _ _ | assumption | refine Below.alloc ?_ (by simp [size_ext]; try omega) _ | refine Below.ext ?_ (by simp [size_ext]; try omega) _ | refine Below.drew ?_ | refine Below.setCell ?_ (by simp [size_ext]; try omega) _))
abbrev facV (f : Fact) : Value := .agg #[.int .i64 f.var, .bool f.loc.slot, .int .i64 f.loc.n]
set_option maxRecDepth 100000 in
set_option maxHeartbeats 8000000 in
theorem order28_any (w : World) (f g : Fact) (hf : InI f.var ∧ InI f.loc.n) (hg : InI g.var ∧ InI g.loc.n) : Calls Tryz.prog 51 #[facV f, facV g] w (RetX (.int .i64 (ordF f g)) w) := by
  obtain ⟨va, ⟨sa, na⟩⟩ := f
  obtain ⟨vb, ⟨sb, nb⟩⟩ := g
  have ho : ordF ⟨va, ⟨sa, na⟩⟩ ⟨vb, ⟨sb, nb⟩⟩ = orI [cmpI va vb, cmpI (sortF ⟨va, ⟨sa, na⟩⟩) (sortF ⟨vb, ⟨sb, nb⟩⟩), cmpI na nb] := by
    unfold ordF orI orI orI orI
    simp only
    split
    · rfl
    · split
      · rfl
      · split
        · rfl
        · rename_i h; simpa using h
  have hi : ∀ a b, InI (cmpI a b) := fun a b => by unfold cmpI InI; split; omega; split <;> omega
  obtain ⟨c1, hc1⟩ : ∃ c, cmpI va vb = c := ⟨_, rfl⟩
  obtain ⟨s1, hs1⟩ : ∃ c, sortF ⟨va, ⟨sa, na⟩⟩ = c := ⟨_, rfl⟩
  obtain ⟨s2, hs2⟩ : ∃ c, sortF ⟨vb, ⟨sb, nb⟩⟩ = c := ⟨_, rfl⟩
  obtain ⟨c2, hc2⟩ : ∃ c, cmpI s1 s2 = c := ⟨_, rfl⟩
  obtain ⟨c3, hc3⟩ : ∃ c, cmpI na nb = c := ⟨_, rfl⟩
  have HI := hide (show InI c1 ∧ InI c2 ∧ InI c3 from ⟨hc1 ▸ hi _ _, hc2 ▸ hi _ _, hc3 ▸ hi _ _⟩)
  have H1 := hide (fun W => show Calls Tryz.prog 113 #[.int .i64 va, .int .i64 vb] W (Ret (.int .i64 c1) W) from hc1 ▸ cmp28_any va vb W)
  have H2 := hide (fun W => show Calls Tryz.prog 113 #[.int .i64 s1, .int .i64 s2] W (Ret (.int .i64 c2) W) from hc2 ▸ cmp28_any s1 s2 W)
  have H3 := hide (fun W => show Calls Tryz.prog 113 #[.int .i64 na, .int .i64 nb] W (Ret (.int .i64 c3) W) from hc3 ▸ cmp28_any na nb W)
  have H4 := hide (fun W => show Calls Tryz.prog 111 #[.agg #[.int .i64 va, .bool sa, .int .i64 na]] W (RetX (.int .i64 s1) W) from hs1 ▸ sort28_any W va sa na)
  have H5 := hide (fun W => show Calls Tryz.prog 111 #[.agg #[.int .i64 vb, .bool sb, .int .i64 nb]] W (RetX (.int .i64 s2) W) from hs2 ▸ sort28_any W vb sb nb)
  rw [hs1, hs2, hc1, hc2, hc3] at ho
  rw [ho]
  clear ho hi hc1 hc2 hc3 hs1 hs2
  go_enter Tryz.func51, Tryz.ntmps51
  go_wp2_with fail
  obtain ⟨X, hX⟩ : ∃ X, (w.alloc (.cells #[.int .i64 va, .bool sa, .int .i64 na] 42)).alloc (.cells #[.int .i64 vb, .bool sb, .int .i64 nb] 42) = X := ⟨_, rfl⟩
  have HBX := hide (show Below w.heap.size w X by rw [← hX]; exact ((Below.refl _ _).alloc (Nat.le_refl _) _).alloc (by simp) _)
  have hxs : X.heap.size = w.heap.size + 2 := by rw [← hX]; simp
  have r1 : X.heap[w.heap.size]? = some (.cells #[.int .i64 va, .bool sa, .int .i64 na] 42 (0, 0)) := by
    rw [← hX, Below.heap_alloc _ _ _ (by simp)]; exact heap_alloc_new w _
  have r2 : X.heap[w.heap.size + 1]? = some (.cells #[.int .i64 vb, .bool sb, .int .i64 nb] 42 (0, 0)) := by
    have h := heap_alloc_new (w.alloc (.cells #[.int .i64 va, .bool sa, .int .i64 na] 42)) (.cells #[.int .i64 vb, .bool sb, .int .i64 nb] 42 (0, 0))
    rw [← hX]; simpa using h
  obtain ⟨ga, hga⟩ : ∃ g, w.heap.size = g := ⟨_, rfl⟩
  obtain ⟨gb, hgb⟩ : ∃ g, ga + 1 = g := ⟨_, rfl⟩
  rw [hga] at r1 r2
  rw [hgb] at r2
  have la : ga < X.heap.size := by omega
  have lb : gb < X.heap.size := by omega
  have a0 : X.cell? ⟨ga, 0, none⟩ = some (.int .i64 va) := cell_of_row X ga _ _ _ (0, 0) r1
  have a1 : X.cell? ⟨ga, 1, none⟩ = some (.bool sa) := cell_of_row X ga _ _ _ (0, 0) r1
  have a2 : X.cell? ⟨ga, 2, none⟩ = some (.int .i64 na) := cell_of_row X ga _ _ _ (0, 0) r1
  have b0 : X.cell? ⟨gb, 0, none⟩ = some (.int .i64 vb) := cell_of_row X gb _ _ _ (0, 0) r2
  have b1 : X.cell? ⟨gb, 1, none⟩ = some (.bool sb) := cell_of_row X gb _ _ _ (0, 0) r2
  have b2 : X.cell? ⟨gb, 2, none⟩ = some (.int .i64 nb) := cell_of_row X gb _ _ _ (0, 0) r2
  rw [hX]
  try rw [hga]
  try rw [hgb]
  clear hX r1 r2 hxs hga hgb
  refine wp_region_flow_ext [] [19] (by kernel_rfl) rfl (by kernel_rfl) ?_
  repeat (refine flow_known (by kernel_rfl) (fun K hK => ?_); go_simp; (first | (refine hK _ ?_; clear hK K) | (apply Exists.intro; refine ⟨fun _ => ?_, hK _ ?_⟩; (first | (go_at_call 113; with_reducible exact Ret.retX (H1.out _)) | (go_at_call 113; with_reducible exact Ret.retX (H2.out _)) | (go_at_call 113; with_reducible exact Ret.retX (H3.out _)) | (go_at_call 111; with_reducible exact H4.out _) | (go_at_call 111; with_reducible exact H5.out _)); clear hK K)))
  refine flow_keep0 (SlP 3 [c1, c2, c3]) (by kernel_rfl) (SlP.stable_ rfl) ?_ ?_
  · intro u
    go_simp
    exact ⟨⟨fun _ => True, _, _, rfl, Sl.lit (S := fun _ => True) (us := [.int .i64 c1, .int .i64 c2, .int .i64 c3]) (by simp only [size_ext]) (RepL.ints [c1, c2, c3] (by intro x hx; simp at hx; rcases hx with rfl | rfl | rfl; exact HI.out.1; exact HI.out.2.1; exact HI.out.2.2)) rfl (by decide) (fun _ _ => trivial) trivial⟩, onW_alloc rfl ⟨_, rfl⟩⟩
  refine flow_out [true] (.int .i64 (orI [c1, c2, c3])) (by kernel_rfl) ?_ ?_
  · intro u
    try simp only [List.nil_append, List.cons_append, useH_f, useH_t, useH_nil]
    rintro _ ⟨S, A, c, rfl, hs⟩
    go_simp
    exact or28_any _ S A 3 c _ hs
  repeat (refine flow_known (by kernel_rfl) (fun K hK => ?_); go_simp; (first | (refine hK _ ?_; clear hK K) | (apply Exists.intro; refine ⟨fun _ => ?_, hK _ ?_⟩; (fail); clear hK K)))
  refine flow_done [true] (by kernel_rfl) ?_
  intro u
  simp only [List.nil_append, List.cons_append, endH_f, endH_t, endH_nil]
  rintro _ -
  go_simp
  go_wp2_with fail
  go_ret
  exact RetX.i rfl (HBX.out.ext HBX.out.size u)
theorem ahead28_any (w : World) (f g : Fact) (hf : InI f.var ∧ InI f.loc.n) (hg : InI g.var ∧ InI g.loc.n) : Calls Tryz.prog 19 #[facV f, facV g] w (RetX (.bool (aheadF f g)) w) := by
  have HO := hide (fun (W : World) => order28_any W f g hf hg)
  obtain ⟨va, ⟨sa, na⟩⟩ := f
  obtain ⟨vb, ⟨sb, nb⟩⟩ := g
  have ha : aheadF ⟨va, ⟨sa, na⟩⟩ ⟨vb, ⟨sb, nb⟩⟩ = decide (ordF ⟨va, ⟨sa, na⟩⟩ ⟨vb, ⟨sb, nb⟩⟩ < 0) := rfl
  rw [ha]
  generalize ordF ⟨va, ⟨sa, na⟩⟩ ⟨vb, ⟨sb, nb⟩⟩ = o at HO ⊢
  clear ha hf hg
  go_enter Tryz.func19, Tryz.ntmps19
  go_wp2_with (go_at_call 51; (with_reducible refine (HO.out _).mono ?_); rintro e _ ⟨rfl, u1, rfl⟩)
  go_ret
  exact RetX.b rfl (by repeat (first | exact Below.refl _ _ | assumption | refine Below.alloc ?_ (by simp [size_ext]; try omega) _ | refine Below.ext ?_ (by simp [size_ext]; try omega) _ | refine Below.drew ?_ | refine Below.setCell ?_ (by simp [size_ext]; try omega) _))
end Go.Proofs.YtppkanniefignaaGreatDoor
