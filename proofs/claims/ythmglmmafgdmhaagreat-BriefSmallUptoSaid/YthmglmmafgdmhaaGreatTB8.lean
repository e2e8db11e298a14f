/- Walks: law23: the chapter's example; how great briefs are; where a number is. -/
import Derived.Test.YthmglmmafgdmhaaGreatTB7
import Derived.Test.YthmglmmafgdmhaaGreatTB4
import Derived.Test.YthmglmmafgdmhaaGreatK0
import Derived.BigQuiet
set_option linter.unusedSimpArgs false
set_option linter.unusedVariables false
namespace Go.Proofs.YthmglmmafgdmhaaGreat
open Go.RowKit Go.Maps

def sB : Brief := ⟨[1, 2], [4, -1], [5, 9]⟩
theorem worth_sB : worthT [1, 2] [10, 3] [sB] = ([15, 0], 0) := by decide +kernel
theorem kept_sB : keptB [sB] = [1] := by decide +kernel
theorem apart_sB : (apartB sB).length = 1 := by decide +kernel
theorem lit_ints (W : World) (g : Nat) (hg : g = W.heap.size) (xs : List Int) (h : ∀ x ∈ xs, InI x) (hl : xs.length ≤ 100) : Sl (W.alloc (.cells (xs.map (Value.int .i64)).toArray 3)) (fun b => b = g) (some ⟨g, 0, none⟩) xs.length xs.length xs := by
  subst hg
  exact Sl.lit (S := fun _ => False) (us := xs.map (Value.int .i64)) rfl (RepL.ints xs h) rfl (by omega) (fun _ h => h.elim) rfl
/-- It returns a brief in new memory. -/
def RetB (b : Brief) (w : World) (e : Ending) (w' : World) : Prop :=
  ∃ A1 n1 c1 A2 n2 c2 A3 n3 c3, e = .returned (.agg #[.slice A1 n1 c1, .slice A2 n2 c2, .slice A3 n3 c3]) ∧ Sl w' (fun g => w.heap.size ≤ g) A1 n1 c1 b.vars ∧ Sl w' (fun g => w.heap.size ≤ g) A2 n2 c2 b.colors ∧ Sl w' (fun g => w.heap.size ≤ g) A3 n3 c3 b.edge ∧ ∃ u : Ext, w' = w.ext u
theorem size_brief : (Tryz.prog.info? 43).map (·.size) = some 3 := by kernel_rfl
theorem results_brief {fn : Func} {p : Tmp} {g : Nat} {a1 a2 a3 : Value} (h : fn.results = #[.cell p 43]) (tmps : Array Value) (w : World)
    (hp : tmps.getD p undef = .pointer (some ⟨g, 0, none⟩)) (hg : w.heap[g]? = some (.cells #[a1, a2, a3] 43 (0, 0))) : (results fn tmps).run Tryz.prog w = .ok (.agg #[a1, a2, a3]) w := by
  have hl := run_loadVar_row w g _ _ _ (0, 0) _ hg Tryz.underlying43 rfl size_brief
  have hp' : tmps[p]?.getD undef = .pointer (some ⟨g, 0, none⟩) := by simpa using hp
  simp [results, h, hp', asAddr, hl]
set_option maxRecDepth 100000 in
set_option maxHeartbeats 4000000 in
theorem sample_any (w : World) : Calls Tryz.prog 26 #[] w (RetB sB w) := by
  go_enter Tryz.func26, Tryz.ntmps26
  go_wp2
  refine bodyPost_ret (v := .agg #[.slice (some ⟨w.heap.size + 1, 0, none⟩) 2 2, .slice (some ⟨w.heap.size + 1 + 1, 0, none⟩) 2 2, .slice (some ⟨w.heap.size + 1 + 1 + 1, 0, none⟩) 2 2]) (results_brief Tryz.results26 _ _ rfl ?hrow) rfl ?_
  case hrow =>
    rw [Below.heap_alloc _ _ _ (by simp; omega), Below.heap_alloc _ _ _ (by simp; omega), Below.heap_alloc _ _ _ (by simp)]
    exact heap_alloc_new w _
  have i1 : ∀ x ∈ ([1, 2] : List Int), InI x := by intro x hx; simp at hx; unfold InI; omega
  have i2 : ∀ x ∈ ([4, -1] : List Int), InI x := by intro x hx; simp at hx; unfold InI; omega
  have i3 : ∀ x ∈ ([5, 9] : List Int), InI x := by intro x hx; simp at hx; unfold InI; omega
  refine ⟨_, _, _, _, _, _, _, _, _, rfl, ?_, ?_, ?_, Below.to_ext (by repeat (first | exact Below.refl _ _ | assumption | refine Below.alloc ?_ (by simp [size_ext]; try omega) _ | refine Below.ext ?_ (by simp [size_ext]; try omega) _ | refine Below.drew ?_ | refine Below.setCell ?_ (by simp [size_ext]; try omega) _))⟩
  · exact (((lit_ints (w.alloc _) (w.heap.size + 1) (by simp) [1, 2] i1 (by decide)).alloc _).alloc _).more fun b _ h => by have h : b = _ := h; omega
  · exact ((lit_ints ((w.alloc _).alloc _) (w.heap.size + 1 + 1) (by simp) [4, -1] i2 (by decide)).alloc _).more fun b _ h => by have h : b = _ := h; omega
  · exact (lit_ints (((w.alloc _).alloc _).alloc _) (w.heap.size + 1 + 1 + 1) (by simp) [5, 9] i3 (by decide)).more fun b _ h => by have h : b = _ := h; omega
theorem RetB.use {b : Brief} {w w' : World} {e : Ending} (h : RetB b w e w') : ∃ A1 n1 c1 A2 n2 c2 A3 n3 c3, e = .returned (.agg #[.slice A1 n1 c1, .slice A2 n2 c2, .slice A3 n3 c3]) ∧ Sl w' (fun _ => True) A1 n1 c1 b.vars ∧ Sl w' (fun _ => True) A2 n2 c2 b.colors ∧ Sl w' (fun _ => True) A3 n3 c3 b.edge ∧ ∃ u : Ext, w' = w.ext u := by
  obtain ⟨A1, n1, c1, A2, n2, c2, A3, n3, c3, he, h1, h2, h3, hu⟩ := h
  exact ⟨A1, n1, c1, A2, n2, c2, A3, n3, c3, he, h1.more fun _ _ _ => trivial, h2.more fun _ _ _ => trivial, h3.more fun _ _ _ => trivial, hu⟩
/-- A brief in a new row. -/
theorem lit_brief (W : World) (g : Nat) (hg : g = W.heap.size) (b : Brief) {A1 A2 A3 : Option Addr} {n1 c1 n2 c2 n3 c3 : Nat} (h1 : Sl W (fun _ => True) A1 n1 c1 b.vars) (h2 : Sl W (fun _ => True) A2 n2 c2 b.colors) (h3 : Sl W (fun _ => True) A3 n3 c3 b.edge) :
    Sl (W.alloc (.cells #[.slice A1 n1 c1, .slice A2 n2 c2, .slice A3 n3 c3] 43)) (fun _ => True) (some ⟨g, 0, none⟩) 1 1 [b] := by
  subst hg
  exact (Sl.lit (S := fun _ => True) (S' := fun _ => True) (us := [.slice A1 n1 c1, .slice A2 n2 c2, .slice A3 n3 c3]) rfl (RepL.single (Brief.mk_ h1 h2 h3)) rfl (by simp) (fun _ _ => trivial) trivial)
set_option maxRecDepth 100000 in
set_option maxHeartbeats 8000000 in
theorem awake23_any (w : World) : Calls Tryz.prog 7 #[] w (RetX (.bool true) w) := by
  have i1 : ∀ x ∈ ([1, 2] : List Int), InI x := by intro x hx; simp at hx; unfold InI; omega
  have i2 : ∀ x ∈ ([10, 3] : List Int), InI x := by intro x hx; simp at hx; unfold InI; omega
  go_enter Tryz.func7, Tryz.ntmps7
  go_wp2_with (first
    | (go_at_call 26; refine (sample_any _).mono ?_; intro e w' hret; obtain ⟨A1, n1, c1, A2, n2, c2, A3, n3, c3, rfl, s1, s2, s3, us, rfl⟩ := hret.use; clear hret)
    | (go_at_call 10; refine (worth_any _ (fun _ => True) _ _ _ _ _ _ _ _ _ [1, 2] [10, 3] [sB] (((((lit_ints w _ rfl [1, 2] i1 (by decide)).alloc _).ext us).alloc _).more fun _ _ _ => trivial) ((((lit_ints (w.alloc _) (w.heap.size + 1) (by simp) [10, 3] i2 (by decide)).ext us).alloc _).more fun _ _ _ => trivial) (lit_brief _ _ (by simp [size_ext]) sB s1 s2 s3)).mono ?_; rw [worth_sB]; rintro e W ⟨v, rfl, ho, hb⟩; obtain ⟨A5, c5, rfl⟩ := ho.form; dsimp only [List.length_cons, List.length_nil] at ho ⊢; refine Hd.out ?_))
  have HB := hide (show Below w.heap.size w W from ((((((Below.refl _ w).alloc (Nat.le_refl _) _).alloc (by simp) _).ext (by simp; omega) us).alloc (by simp [size_ext]; omega) _).trans (hb.mono (by simp [size_ext]; omega))))
  have HS5 := hide (show Sl W (fun _ => True) A5 2 c5 ([15, 0] : List Int) from ho.sl fun _ _ _ => trivial)
  have hwW := HB.out.size
  clear hb ho s1 s2 s3
  have i3 : ∀ x ∈ ([15, 0] : List Int), InI x := by intro x hx; simp at hx; unfold InI; omega
  have i4 : ∀ x ∈ ([1] : List Int), InI x := by intro x hx; simp at hx; unfold InI; omega
  refine hide ?_
  go_wp2_with (first
    | (go_at_call 13; refine (sameInts_any _ (fun _ => True) (fun _ => True) _ _ _ _ _ [15, 0] (HS5.out.alloc _) ((lit_ints W _ rfl [15, 0] i3 (by decide)).more fun _ _ _ => trivial)).mono ?_; rintro e _ ⟨rfl, u1, rfl⟩; clear HS5)
    | (go_at_call 26; refine (sample_any _).mono ?_; intro e w' hret; obtain ⟨A1, n1, c1, A2, n2, c2, A3, n3, c3, rfl, s1, s2, s3, us, rfl⟩ := hret.use; clear hret)
    | (go_at_call 22; refine (used_any _ _ sB _ _ _ _ _ _ _ _ _ s1 s2 s3).mono ?_; rw [apart_sB]; rintro e W2 ⟨rfl, hb2⟩; have HB2 := hide hb2; clear hb2 s1 s2 s3)
    | (go_at_call 17; refine (kept_any _ (fun _ => True) _ _ _ [sB] (lit_brief _ _ (by simp [size_ext]) sB s1 s2 s3) (by decide)).mono ?_; rw [kept_sB]; rintro e W3 ⟨v, rfl, ho, hb⟩; obtain ⟨A6, c6, rfl⟩ := ho.form; dsimp only [List.length_cons, List.length_nil] at ho ⊢; have HB3 := hide hb; have HS6 := hide (show Sl W3 (fun _ => True) A6 1 c6 ([1] : List Int) from ho.sl fun _ _ _ => trivial); clear hb ho s1 s2 s3)
    | (go_at_call 13; refine (sameInts_any _ (fun _ => True) (fun _ => True) _ _ _ _ _ [1] (HS6.out.alloc _) ((lit_ints _ _ rfl [1] i4 (by decide)).more fun _ _ _ => trivial)).mono ?_; rintro e _ ⟨rfl, u9, rfl⟩; clear HS6))
  go_ret
  have q1 : Below w.heap.size w W2 := (((HB.out.alloc hwW _).ext (by simp; omega) u1).ext (by simp [size_ext]; omega) _).trans (HB2.out.mono (by simp [size_ext]; omega))
  have q1s := q1.size
  have q2 : Below w.heap.size w W3 := ((q1.ext q1s us).alloc (by simp [size_ext]; omega) _).trans (HB3.out.mono (by simp [size_ext]; omega))
  have q2s := q2.size
  exact RetX.b rfl ((q2.alloc q2s _).ext (by simp; omega) u9)
/-- How great briefs are, about. -/
def sizeL (n : Int) : List Brief → Int
  | [] => n
  | b :: l => if n ≤ 400 then sizeL (n + b.vars.length + b.colors.length + b.edge.length) l else n
def totL : List Brief → Int
  | [] => 0
  | b :: l => (b.vars.length + b.colors.length + b.edge.length) + totL l
theorem totL_pos : ∀ l, 0 ≤ totL l
  | [] => Int.le_refl _
  | b :: l => by have := totL_pos l; unfold totL; omega
theorem sizeL_ge : ∀ (l : List Brief) (n : Int), n ≤ sizeL n l
  | [], n => Int.le_refl _
  | b :: l, n => by
    unfold sizeL
    split
    · have := sizeL_ge l (n + b.vars.length + b.colors.length + b.edge.length); omega
    · exact Int.le_refl _
theorem sizeL_small : ∀ (l : List Brief) (n : Int), sizeL n l ≤ 400 → n + totL l ≤ 400
  | [], n, h => by unfold sizeL at h; unfold totL; omega
  | b :: l, n, h => by
    unfold sizeL at h
    split at h
    · have := sizeL_small l _ h; unfold totL; omega
    · omega
theorem sizeL_bd {M : Int} (hM : 400 ≤ M) : ∀ (l : List Brief) (n : Int), n ≤ M → (∀ b ∈ l, (b.vars.length + b.colors.length + b.edge.length : Int) ≤ M) → sizeL n l ≤ 2 * M
  | [], n, h, _ => by unfold sizeL; omega
  | b :: l, n, h, hb => by
    unfold sizeL
    split
    · rename_i h4
      have h1 := hb b (by simp)
      by_cases h5 : n + b.vars.length + b.colors.length + b.edge.length ≤ 400
      · exact sizeL_bd hM l _ (by omega) fun x hx => hb x (by simp [hx])
      · have : sizeL (n + b.vars.length + b.colors.length + b.edge.length) l = n + b.vars.length + b.colors.length + b.edge.length := by
          cases l with
          | nil => rfl
          | cons y t => unfold sizeL; rw [if_neg h5]
        omega
    · omega
theorem totL_mem : ∀ {l : List Brief} {b : Brief}, b ∈ l → (b.vars.length + b.colors.length + b.edge.length : Int) ≤ totL l
  | x :: l, b, h => by
    unfold totL
    have := totL_pos l
    rcases List.mem_cons.1 h with rfl | h
    · omega
    · have := totL_mem h; omega
set_option maxRecDepth 100000 in
set_option maxHeartbeats 4000000 in
theorem size23_any (w : World) (S : Nat → Prop) (A : Option Addr) (n c : Nat) (l : List Brief) (h : Sl w S A n c l) (hn : n ≤ 1048576) (hl : ∀ b ∈ l, b.vars.length ≤ 1048576 ∧ b.colors.length ≤ 1048576 ∧ b.edge.length ≤ 1048576) :
    Calls Tryz.prog 6 #[.slice A n c] w (RetX (.int .i64 (sizeL l.length l)) w) := by
  have HL := hide h.len
  have HS := hide h
  have HLL := hide hl
  clear h hl
  go_enter Tryz.func6, Tryz.ntmps6
  go_wp2
  go_loopw [3, 4] (fun s i wr => ∃ (k : Nat) (m : Int), k ≤ n ∧ i = .int .i64 k ∧ s = .int .i64 m ∧ 0 ≤ m ∧ m ≤ 16777216 ∧ sizeL l.length l = sizeL m (l.drop k) ∧ ∃ u, wr = w.ext u) (fun _ i _ => n - (intOf i).toNat)
  case atStart => exact ⟨0, n, Nat.zero_le _, rfl, rfl, by omega, by omega, by rw [HL.out]; rfl, ext_refl _⟩
  case round =>
    obtain ⟨k, m, hk, rfl, rfl, hm0, hm1, hr, hu⟩ := hrel
    have hsl : Sl wr S A n c l := by obtain ⟨u, rfl⟩ := hu; exact HS.out.ext u
    have HU := hide hu
    clear hu
    have HR := hide hr; clear hr
    by_cases hlt : k < n
    · obtain ⟨b, off, bx, A1, n1, c1, A2, n2, c2, A3, n3, c3, rfl, hb, hx, s1, s2, s3, k0, k1, k2⟩ := at_Brief hsl hlt
      have hxl := HLL.out bx (List.mem_of_getElem? hx)
      have HX := hide (drop_at hx)
      have l1 := s1.len; have l2 := s2.len; have l3 := s3.len
      have hki : (k : Int) < n := by omega
      clear hx s1 s2 s3 hsl
      by_cases h4 : m ≤ 400
      · have hwr : IntKind.i64.wrap (m + n1) = m + n1 := IntWalk.i64_in _ (by omega)
        have hwr2 : IntKind.i64.wrap (m + n1 + n2) = m + n1 + n2 := IntWalk.i64_in _ (by omega)
        have hwr3 : IntKind.i64.wrap (m + n1 + n2 + n3) = m + n1 + n2 + n3 := IntWalk.i64_in _ (by omega)
        go_wp2_with fail
        refine wp_region_ext (by kernel_rfl) (by kernel_rfl) ?_
        repeat (any_goals (first | go_big_quiet_step ((fail)) | quiet_step ((fail))))
        refine wpQuiet_nil ?_
        rintro _ ⟨uq, rfl⟩
        go_wp2_with fail
        go_roundw
        case rel => exact ⟨k + 1, m + n1 + n2 + n3, by omega, by go_num, rfl, by omega, by omega, by rw [HR.out, HX.out]; show (if m ≤ 400 then _ else _) = _; rw [if_pos h4, l1, l2, l3], by obtain ⟨u, hu⟩ := HU.out; rw [hu]; exact ext_ext _ _ _⟩
        case measure => simp [intOf]; omega
      · go_wp2_with fail
        go_ret
        exact RetX.i (by rw [HR.out, HX.out]; show m = (if m ≤ 400 then _ else _); rw [if_neg (by omega)]) (by obtain ⟨u, hu⟩ := HU.out; rw [hu]; exact Below.of_ext w u (Nat.le_refl _))
    · go_wp2_with fail
      go_ret
      exact RetX.i (by rw [HR.out, drop_end HL.out hlt]; rfl) (by obtain ⟨u, hu⟩ := HU.out; rw [hu]; exact Below.of_ext w u (Nat.le_refl _))
end Go.Proofs.YthmglmmafgdmhaaGreat
