/- Walks: the program's moves: the steps' instructions; Row. -/
import Derived.Test.YtoghikagooegbaaMV7
set_option linter.unusedSimpArgs false
set_option linter.unusedVariables false
namespace Go.Proofs.Ytoghikagooegbaa
open Go.RowKit Go.Maps

theorem method_put (v : Value) (w : World) : (method 300 74 v "intarsia/moves.ins").run Try.prog w = .ok (102, v) w := by kernel_rfl
theorem method_get (v : Value) (w : World) : (method 300 122 v "intarsia/moves.ins").run Try.prog w = .ok (103, v) w := by kernel_rfl
theorem method_move (v : Value) (w : World) : (method 300 124 v "intarsia/moves.ins").run Try.prog w = .ok (104, v) w := by kernel_rfl
theorem insPut_any (w : World) (a b : Int) : Calls Try.prog 102 #[.agg #[.int .i64 a, .int .i64 b]] w (RetX (.agg #[.int .i64 16, .int .i64 0, .int .i64 b, .int .i64 0, .int .i64 a, .int .i64 0, .slice none 0 0, .int .i64 0]) w) := by
  go_enter Try.func102, Try.ntmps102
  go_wp2_with fail
  refine bodyPost_ret (results_cell_row Try.results102 _ _ (w.heap.size + 1) _ _ (0, 0) _ rfl (by have h := heap_alloc_new (w.alloc (.cells #[.int .i64 a, .int .i64 b] 74)); simpa using h _) Try.underlying54 rfl (by kernel_rfl)) rfl ?_
  exact ⟨rfl, Below.to_ext (by repeat (first | exact Below.refl _ _ | assumption | refine Below.alloc ?_ (by simp [size_ext]; try omega) _ | refine Below.ext ?_ (by simp [size_ext]; try omega) _ | refine Below.drew ?_ | refine Below.setCell ?_ (by simp [size_ext]; try omega) _))⟩
theorem insGet_any (w : World) (a b : Int) : Calls Try.prog 103 #[.agg #[.int .i64 a, .int .i64 b]] w (RetX (.agg #[.int .i64 17, .int .i64 a, .int .i64 0, .int .i64 0, .int .i64 b, .int .i64 0, .slice none 0 0, .int .i64 0]) w) := by
  go_enter Try.func103, Try.ntmps103
  go_wp2_with fail
  refine bodyPost_ret (results_cell_row Try.results103 _ _ (w.heap.size + 1) _ _ (0, 0) _ rfl (by have h := heap_alloc_new (w.alloc (.cells #[.int .i64 a, .int .i64 b] 122)); simpa using h _) Try.underlying54 rfl (by kernel_rfl)) rfl ?_
  exact ⟨rfl, Below.to_ext (by repeat (first | exact Below.refl _ _ | assumption | refine Below.alloc ?_ (by simp [size_ext]; try omega) _ | refine Below.ext ?_ (by simp [size_ext]; try omega) _ | refine Below.drew ?_ | refine Below.setCell ?_ (by simp [size_ext]; try omega) _))⟩
theorem insMove_any (w : World) (a b : Int) : Calls Try.prog 104 #[.agg #[.int .i64 a, .int .i64 b]] w (RetX (.agg #[.int .i64 15, .int .i64 a, .int .i64 b, .int .i64 0, .int .i64 0, .int .i64 0, .slice none 0 0, .int .i64 0]) w) := by
  go_enter Try.func104, Try.ntmps104
  go_wp2_with fail
  refine bodyPost_ret (results_cell_row Try.results104 _ _ (w.heap.size + 1) _ _ (0, 0) _ rfl (by have h := heap_alloc_new (w.alloc (.cells #[.int .i64 a, .int .i64 b] 124)); simpa using h _) Try.underlying54 rfl (by kernel_rfl)) rfl ?_
  exact ⟨rfl, Below.to_ext (by repeat (first | exact Below.refl _ _ | assumption | refine Below.alloc ?_ (by simp [size_ext]; try omega) _ | refine Below.ext ?_ (by simp [size_ext]; try omega) _ | refine Below.drew ?_ | refine Below.setCell ?_ (by simp [size_ext]; try omega) _))⟩
theorem at_Stp {w : World} {S : Nat → Prop} {A : Option Addr} {n c : Nat} {xs : List Move} (h : Sl w S A n c (xs.map Stp.mk)) {k : Nat} (hk : k < n) :
    ∃ b off, ∃ x : Move, A = some ⟨b, off, none⟩ ∧ b < w.heap.size ∧ xs[k]? = some x ∧ InI x.src.n ∧ InI x.dst.n ∧ w.cell? ⟨b, off + k, none⟩ = some (stepV x) := by
  obtain ⟨b, off, x, us, e, hb, _, hx, hus, hc⟩ := h.at_ hk
  obtain ⟨rfl, h1, h2⟩ := hus
  rw [List.getElem?_map] at hx
  cases hq : xs[k]? with
  | none => rw [hq] at hx; cases hx
  | some m =>
    rw [hq] at hx
    injection hx with hx
    subst hx
    refine ⟨b, off, m, e, hb, rfl, h1, h2, ?_⟩
    have := hc 0 _ rfl
    simpa [Rep.size] using this
/-- The row that Row tells. -/
def rowIns (xs : List Move) (t : Int) : List Ins := if rightM' xs (spL t) = true then (rowOf (spL t) (busyM xs)).map insM else []
def rowErr (xs : List Move) (t : Int) : Int := if rightM' xs (spL t) = true then 0 else 2
/-- A row of instructions of the call's own, and an error. -/
def RetRow26 (xs : List Ins) (e : Int) (w : World) (en : Ending) (w' : World) : Prop := ∃ A n c, en = .returned (.tuple #[.slice A n c, .int .i64 e]) ∧ OwnL w' w.heap.size 54 (fun _ => False) (.slice A n c) xs ∧ ∃ u, w' = w.ext u
theorem right_dst {xs : List Move} {t : Int} (h : rightM' xs (spL t) = true) : ∀ m ∈ busyM xs, m.dst ≠ spL t := by
  intro m hm
  unfold rightM' at h
  simp only [Bool.and_eq_true, Bool.not_eq_true'] at h
  exact (namesM_false.1 h.2 m (mem_busy.1 hm).1).2
theorem rowOf_le (s : Loc) (l : List Move) : (rowOf s l).length ≤ 2 * l.length + 1 := rowN_len s _ l
theorem insM_cases (x : Move) : (stepV x = .iface 74 (.agg #[.int .i64 x.dst.n, .int .i64 x.src.n]) ∧ insM x = ⟨16, 0, x.src.n, 0, x.dst.n, 0, [], 0⟩) ∨
    (stepV x = .iface 122 (.agg #[.int .i64 x.dst.n, .int .i64 x.src.n]) ∧ insM x = ⟨17, x.dst.n, 0, 0, x.src.n, 0, [], 0⟩) ∨
    (stepV x = .iface 124 (.agg #[.int .i64 x.dst.n, .int .i64 x.src.n]) ∧ insM x = ⟨15, x.dst.n, x.src.n, 0, 0, 0, [], 0⟩) := by
  unfold stepV insM
  cases h1 : x.dst.slot
  · cases h2 : x.src.slot
    · exact .inr (.inr (by simp))
    · exact .inr (.inl (by simp))
  · exact .inl (by simp)
theorem OwnL.lower {α : Type} [Rep α] {w : World} {base base' : Nat} {T : TypeId} {S : Nat → Prop} {v : Value} {xs : List α} (h : OwnL w base T S v xs) (hb : base' ≤ base) : OwnL w base' T S v xs := by
  obtain ⟨vals, ⟨h1, h⟩, h2, h3⟩ := h
  refine ⟨vals, ⟨h1, ?_⟩, h2, h3⟩
  rcases h with h | ⟨g, cap, cur, e, hg, r⟩
  · exact .inl h
  · exact .inr ⟨g, cap, cur, e, Nat.le_trans hb hg, r⟩
theorem ini_ {k : Int} (h : -9223372036854775808 ≤ k ∧ k ≤ 9223372036854775807) : InI k := by unfold InI; omega
theorem Ins.flat_ {w : World} {S : Nat → Prop} {a b c d : Int} (h1 : InI a) (h2 : InI b) (h3 : InI c) (h4 : InI d) : Rep.is w S (⟨a, b, c, 0, d, 0, [], 0⟩ : Ins) [.int .i64 a, .int .i64 b, .int .i64 c, .int .i64 0, .int .i64 d, .int .i64 0, .slice none 0 0, .int .i64 0] :=
  Ins.mk_ (x := ⟨a, b, c, 0, d, 0, [], 0⟩) h1 h2 h3 (ini_ (k := 0) (by omega)) h4 (ini_ (k := 0) (by omega)) Sl.nil (ini_ (k := 0) (by omega))
set_option maxRecDepth 100000 in
set_option maxHeartbeats 8000000 in
theorem rowIns_any (w : World) (S : Nat → Prop) (A : Option Addr) (n c : Nat) (xs : List Move) (h : Sl w S A n c xs) (hm : n ≤ 1048576) (t : Int) (ht : InI t) :
    Calls Try.prog 8 #[.slice A n c, .int .i64 t] w (RetRow26 (rowIns xs t) (rowErr xs t) w) := by
  obtain ⟨r, hr⟩ : ∃ r, rightM' xs (spL t) = r := ⟨_, rfl⟩
  have HRT := hide (show Calls Try.prog 12 #[.slice A n c, .int .i64 t] w (RetX (.bool r) w) from hr ▸ mright_any w S A n c xs h hm t ht)
  obtain ⟨i0, hi, hz, hz1, hz2⟩ := info_parts info_Ins
  have HI0 := hide hi; have HZ := hide hz; have HZ1 := hide hz1; have HZ2 := hide hz2
  clear hi hz hz1 hz2
  have hbl := busy_le xs
  rw [h.len] at hbl
  have hrl := rowOf_le (spL t) (busyM xs)
  unfold rowIns rowErr
  rw [hr]
  cases r with
  | false =>
    clear hr h
    go_enter Try.func8, Try.ntmps8
    go_wp2_with (go_at_call 12; (with_reducible refine HRT.out.mono ?_); rintro e _ ⟨rfl, u1, rfl⟩)
    go_ret2
    exact ⟨none, 0, 0, rfl, OwnL.nil_ _ _ _ _, u1, rfl⟩
  | true =>
    have HRW := hide (fun u1 : Ext => row_any (w.ext u1) S A n c xs (h.ext u1) hm t ht (right_dst hr))
    obtain ⟨rs, hrs⟩ : ∃ rs, rowOf (spL t) (busyM xs) = rs := ⟨_, rfl⟩
    rw [hrs] at HRW hrl ⊢
    simp only [if_true]
    clear hr h hrs
    go_enter Try.func8, Try.ntmps8
    go_wp2_with (first
      | (go_at_call 12; (with_reducible refine HRT.out.mono ?_); rintro e _ ⟨rfl, u1, rfl⟩)
      | (go_at_call 27; (with_reducible refine (HRW.out _).mono ?_); rintro e _ ⟨A2, n2, c2, S2, rfl, ho, hS, u2, rfl⟩; have HO := hide ho; have HSS := hide hS; clear ho hS; refine Hd.out ?_))
    obtain ⟨W, hW⟩ : ∃ W, (w.ext u1).ext u2 = W := ⟨_, rfl⟩
    have HBW := hide (show Below w.heap.size w W by rw [← hW]; exact (Below.of_ext w u1 (Nat.le_refl _)).ext (by rw [size_ext]; omega) u2)
    have HSL := hide (show Sl W (fun _ => True) A2 n2 c2 (rs.map Stp.mk) by rw [← hW]; exact HO.out.sl fun _ _ _ => trivial)
    have hn2 : rs.length = n2 := by have := HSL.out.len; rwa [List.length_map] at this
    have HN2 := hide hn2
    have hn2b : n2 ≤ 2097153 := by omega
    have hwW := HBW.out.size
    rw [hW]
    clear hW HO HSS hn2 HRT HRW hrl
    refine hide ?_
    go_wp2_with fail
    go_loopw [4, 16] (fun o i wr => ∃ k : Nat, k ≤ n2 ∧ i = .int .i64 k ∧ OwnL wr W.heap.size 54 (fun _ => False) o ((rs.take k).map insM) ∧ Below W.heap.size W wr) (fun _ i _ => n2 - (intOf i).toNat)
    case atStart => exact ⟨0, Nat.zero_le _, rfl, OwnL.nil_ _ _ _ _, Below.refl _ _⟩
    case round =>
      obtain ⟨k, hk, rfl, hoq, hbq⟩ := hrel
      have HOQ := hide hoq; have HBQ := hide hbq
      have hwq := hbq.size
      clear hoq hbq
      by_cases hlt : k < n2
      · obtain ⟨b, off, x, rfl, hb, hx, hx1, hx2, c0⟩ := at_Stp (HSL.out.belowAll HBQ.out) hlt
        have HTA := hide (take_at hx)
        have HX1 := hide hx1; have HX2 := hide hx2
        have hki : (k : Int) < n2 := by omega
        have hkl : ((rs.take k).map insM).length ≤ 2097153 := by rw [List.length_map, List.length_take]; omega
        have hoB := HOQ.out.below_
        clear hx hx1 hx2
        have mp := method_put; have mg := method_get; have mm := method_move
        rcases insM_cases x with ⟨e1, e2⟩ | ⟨e1, e2⟩ | ⟨e1, e2⟩
        all_goals
          rw [e1] at c0
          have HE2 := hide e2
          clear e1 e2
          go_wp2_with (first
            | (go_at_call 102; (with_reducible refine (insPut_any _ _ _).mono ?_); rintro e _ ⟨rfl, u3, rfl⟩)
            | (go_at_call 103; (with_reducible refine (insGet_any _ _ _).mono ?_); rintro e _ ⟨rfl, u3, rfl⟩)
            | (go_at_call 104; (with_reducible refine (insMove_any _ _ _).mono ?_); rintro e _ ⟨rfl, u3, rfl⟩)
            | (at_builtin; refine wpList_push (α := Ins) (wr.ext u3) _ 54 rfl (.tmp 20) (.tmp 23) 24 rfl W.heap.size 54 i0 _ 80 Try.underlying24 HI0.out HZ.out HZ1.out HZ2.out rfl (by decide) (fun _ => False) (fun _ => False) u4 _ (insM x) rfl (HOQ.out.ext u3) _ rfl (by simp only [size_ext]) (by rw [HE2.out]; exact Ins.flat_ (by first | exact HX1.out | exact HX2.out | exact ini_ (by omega)) (by first | exact HX2.out | exact HX1.out | exact ini_ (by omega)) (by first | exact HX1.out | exact HX2.out | exact ini_ (by omega)) (by first | exact HX2.out | exact HX1.out | exact ini_ (by omega))) (fun _ h => h) (fun _ _ h => h) (fun _ h => h.elim) (by omega) (by omega) (by rw [size_ext]; omega) ?_; intro v' w1 hown' hg _; have HO' := hide hown'; have HG := hide hg; clear hown' hg))
          have HO2 := hide (show OwnL w1 W.heap.size 54 (fun _ => False) v' ((rs.take (k + 1)).map insM) by rw [HTA.out, List.map_append]; exact HO'.out)
          have HB2 := hide (show Below W.heap.size W w1 from ((HBQ.out.ext hwq u3).alloc (by rw [size_ext]; omega) _).grown HG.out (by simp only [World.size_alloc, size_ext]; omega) fun r e => (hoB r e).1)
          first
            | (go_roundw; case rel => exact ⟨k + 1, by omega, by go_num, HO2.out, HB2.out⟩; case measure => simp [intOf]; omega)
            | exact ⟨⟨k + 1, by omega, by go_num, HO2.out, HB2.out⟩, by simp [intOf]; omega⟩
      · have hkn : k = n2 := by omega
        subst hkn
        have hlk : rs.take k = rs := List.take_of_length_le (by rw [HN2.out]; exact Nat.le_refl _)
        rw [hlk] at HOQ
        obtain ⟨A', c', rfl⟩ := HOQ.out.form
        go_wp2_with fail
        go_ret2
        exact ⟨A', _, c', rfl, HOQ.out.lower hwW, Below.to_ext (HBW.out.trans (HBQ.out.mono hwW))⟩
end Go.Proofs.Ytoghikagooegbaa
