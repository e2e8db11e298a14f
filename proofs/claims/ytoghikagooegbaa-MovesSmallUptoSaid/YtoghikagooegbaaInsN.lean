/- Instructions that name nothing at all: their lists are nil. The program's Row, once more. Printed by gen_insn.py. -/
import Derived.Test.YtoghikagooegbaaMV8
set_option linter.unusedSimpArgs false
set_option linter.unusedVariables false
namespace Go.Proofs.Ytoghikagooegbaa
open Go.RowKit Go.Maps

/-- An instruction's cells, its list nil. -/
def cellsN (x : Ins) : List Value := [.int .i64 x.op, .int .i64 x.dst, .int .i64 x.a, .int .i64 x.b, .int .i64 x.imm, .int .i64 x.callee, .slice none 0 0, .int .i64 x.many]
def OkN (x : Ins) : Prop := InI x.op ∧ InI x.dst ∧ InI x.a ∧ InI x.b ∧ InI x.imm ∧ InI x.callee ∧ x.args = [] ∧ InI x.many
abbrev repInsN : Rep Ins where
  size := 8
  is _ _ x vs := vs = cellsN x ∧ OkN x
  len h := by rw [h.1]; rfl
  keep h _ _ := h
  more h _ := h
  one h := by rw [h.1]; simp [cellsN, Value.oneCell']
theorem repN_old {w : World} {S : Nat → Prop} {x : Ins} {vs : List Value} (h : repInsN.is w S x vs) : Rep.is w S x vs := by
  obtain ⟨rfl, h1, h2, h3, h4, h5, h6, h7, h8⟩ := h
  exact Ins.mk_ h1 h2 h3 h4 h5 h6 (by rw [h7]; exact Sl.nil) h8
theorem slN_old {w : World} {S : Nat → Prop} {A : Option Addr} {n c : Nat} {xs : List Ins} (h : @Sl Ins repInsN w S A n c xs) : Sl w S A n c xs := by
  obtain ⟨h1, h2, h3, h4, h5⟩ := h
  refine ⟨h1, h2, h3, h4, fun hn => ?_⟩
  obtain ⟨b, off, e, hb, hS, hx⟩ := h5 hn
  refine ⟨b, off, e, hb, hS, fun i x hi => ?_⟩
  obtain ⟨us, hus, hc⟩ := hx i x hi
  exact ⟨us, repN_old hus, hc⟩
theorem InsN.flat_ {w : World} {S : Nat → Prop} {a b c d : Int} (h1 : InI a) (h2 : InI b) (h3 : InI c) (h4 : InI d) : repInsN.is w S (⟨a, b, c, 0, d, 0, [], 0⟩ : Ins) [.int .i64 a, .int .i64 b, .int .i64 c, .int .i64 0, .int .i64 d, .int .i64 0, .slice none 0 0, .int .i64 0] :=
  ⟨rfl, h1, h2, h3, ini_ (k := 0) (by omega), h4, ini_ (k := 0) (by omega), rfl, ini_ (k := 0) (by omega)⟩
attribute [local instance] repInsN
def RetRow26N (xs : List Ins) (e : Int) (w : World) (en : Ending) (w' : World) : Prop := ∃ A n c, en = .returned (.tuple #[.slice A n c, .int .i64 e]) ∧ OwnL w' w.heap.size 54 (fun _ => False) (.slice A n c) xs ∧ ∃ u, w' = w.ext u
set_option maxRecDepth 100000 in
set_option maxHeartbeats 8000000 in
theorem rowInsN_any (w : World) (S : Nat → Prop) (A : Option Addr) (n c : Nat) (xs : List Move) (h : Sl w S A n c xs) (hm : n ≤ 1048576) (t : Int) (ht : InI t) :
    Calls Try.prog 8 #[.slice A n c, .int .i64 t] w (RetRow26N (rowIns xs t) (rowErr xs t) w) := by
  obtain ⟨r, hr⟩ : ∃ r, rightM' xs (spL t) = r := ⟨_, rfl⟩
  have HRT := hide (show Calls Try.prog 12 #[.slice A n c, .int .i64 t] w (RetX (.bool r) w) from hr ▸ mright_any w S A n c xs h hm t ht)
  obtain ⟨i0, hi, hz, hz1, hz2⟩ := info_parts info_Ins
  have HI0 := hide hi; have HZ := hide hz; have HZ1 := hide hz1; have HZ2 := hide hz2
  clear hi hz hz1 hz2
  have hbl := busy_le xs
  rw [h.len] at hbl
  have hrl := rowOf_le (spL t) (busyM xs)
  unfold rowIns rowErr
  rw [hr]
  cases r with
  | false =>
    clear hr h
    go_enter Try.func8, Try.ntmps8
    go_wp2_with (go_at_call 12; (with_reducible refine HRT.out.mono ?_); rintro e _ ⟨rfl, u1, rfl⟩)
    go_ret2
    exact ⟨none, 0, 0, rfl, OwnL.nil_ _ _ _ _, u1, rfl⟩
  | true =>
    have HRW := hide (fun u1 : Ext => row_any (w.ext u1) S A n c xs (h.ext u1) hm t ht (right_dst hr))
    obtain ⟨rs, hrs⟩ : ∃ rs, rowOf (spL t) (busyM xs) = rs := ⟨_, rfl⟩
    rw [hrs] at HRW hrl ⊢
    simp only [if_true]
    clear hr h hrs
    go_enter Try.func8, Try.ntmps8
    go_wp2_with (first
      | (go_at_call 12; (with_reducible refine HRT.out.mono ?_); rintro e _ ⟨rfl, u1, rfl⟩)
      | (go_at_call 27; (with_reducible refine (HRW.out _).mono ?_); rintro e _ ⟨A2, n2, c2, S2, rfl, ho, hS, u2, rfl⟩; have HO := hide ho; have HSS := hide hS; clear ho hS; refine Hd.out ?_))
    obtain ⟨W, hW⟩ : ∃ W, (w.ext u1).ext u2 = W := ⟨_, rfl⟩
    have HBW := hide (show Below w.heap.size w W by rw [← hW]; exact (Below.of_ext w u1 (Nat.le_refl _)).ext (by rw [size_ext]; omega) u2)
    have HSL := hide (show Sl W (fun _ => True) A2 n2 c2 (rs.map Stp.mk) by rw [← hW]; exact HO.out.sl fun _ _ _ => trivial)
    have hn2 : rs.length = n2 := by have := HSL.out.len; rwa [List.length_map] at this
    have HN2 := hide hn2
    have hn2b : n2 ≤ 2097153 := by omega
    have hwW := HBW.out.size
    rw [hW]
    clear hW HO HSS hn2 HRT HRW hrl
    refine hide ?_
    go_wp2_with fail
    go_loopw [4, 16] (fun o i wr => ∃ k : Nat, k ≤ n2 ∧ i = .int .i64 k ∧ OwnL wr W.heap.size 54 (fun _ => False) o ((rs.take k).map insM) ∧ Below W.heap.size W wr) (fun _ i _ => n2 - (intOf i).toNat)
    case atStart => exact ⟨0, Nat.zero_le _, rfl, OwnL.nil_ _ _ _ _, Below.refl _ _⟩
    case round =>
      obtain ⟨k, hk, rfl, hoq, hbq⟩ := hrel
      have HOQ := hide hoq; have HBQ := hide hbq
      have hwq := hbq.size
      clear hoq hbq
      by_cases hlt : k < n2
      · obtain ⟨b, off, x, rfl, hb, hx, hx1, hx2, c0⟩ := at_Stp (HSL.out.belowAll HBQ.out) hlt
        have HTA := hide (take_at hx)
        have HX1 := hide hx1; have HX2 := hide hx2
        have hki : (k : Int) < n2 := by omega
        have hkl : ((rs.take k).map insM).length ≤ 2097153 := by rw [List.length_map, List.length_take]; omega
        have hoB := HOQ.out.below_
        clear hx hx1 hx2
        have mp := method_put; have mg := method_get; have mm := method_move
        rcases insM_cases x with ⟨e1, e2⟩ | ⟨e1, e2⟩ | ⟨e1, e2⟩
        all_goals
          rw [e1] at c0
          have HE2 := hide e2
          clear e1 e2
          go_wp2_with (first
            | (go_at_call 102; (with_reducible refine (insPut_any _ _ _).mono ?_); rintro e _ ⟨rfl, u3, rfl⟩)
            | (go_at_call 103; (with_reducible refine (insGet_any _ _ _).mono ?_); rintro e _ ⟨rfl, u3, rfl⟩)
            | (go_at_call 104; (with_reducible refine (insMove_any _ _ _).mono ?_); rintro e _ ⟨rfl, u3, rfl⟩)
            | (at_builtin; refine wpList_push (α := Ins) (wr.ext u3) _ 54 rfl (.tmp 20) (.tmp 23) 24 rfl W.heap.size 54 i0 _ 80 Try.underlying24 HI0.out HZ.out HZ1.out HZ2.out rfl (by decide) (fun _ => False) (fun _ => False) u4 _ (insM x) rfl (HOQ.out.ext u3) _ rfl (by simp only [size_ext]) (by rw [HE2.out]; exact InsN.flat_ (by first | exact HX1.out | exact HX2.out | exact ini_ (by omega)) (by first | exact HX2.out | exact HX1.out | exact ini_ (by omega)) (by first | exact HX1.out | exact HX2.out | exact ini_ (by omega)) (by first | exact HX2.out | exact HX1.out | exact ini_ (by omega))) (fun _ h => h) (fun _ _ h => h) (fun _ h => h.elim) (by omega) (by omega) (by rw [size_ext]; omega) ?_; intro v' w1 hown' hg _; have HO' := hide hown'; have HG := hide hg; clear hown' hg))
          have HO2 := hide (show OwnL w1 W.heap.size 54 (fun _ => False) v' ((rs.take (k + 1)).map insM) by rw [HTA.out, List.map_append]; exact HO'.out)
          have HB2 := hide (show Below W.heap.size W w1 from ((HBQ.out.ext hwq u3).alloc (by rw [size_ext]; omega) _).grown HG.out (by simp only [World.size_alloc, size_ext]; omega) fun r e => (hoB r e).1)
          first
            | (go_roundw; case rel => exact ⟨k + 1, by omega, by go_num, HO2.out, HB2.out⟩; case measure => simp [intOf]; omega)
            | exact ⟨⟨k + 1, by omega, by go_num, HO2.out, HB2.out⟩, by simp [intOf]; omega⟩
      · have hkn : k = n2 := by omega
        subst hkn
        have hlk : rs.take k = rs := List.take_of_length_le (by rw [HN2.out]; exact Nat.le_refl _)
        rw [hlk] at HOQ
        obtain ⟨A', c', rfl⟩ := HOQ.out.form
        go_wp2_with fail
        go_ret2
        exact ⟨A', _, c', rfl, HOQ.out.lower hwW, Below.to_ext (HBW.out.trans (HBQ.out.mono hwW))⟩
end Go.Proofs.Ytoghikagooegbaa
