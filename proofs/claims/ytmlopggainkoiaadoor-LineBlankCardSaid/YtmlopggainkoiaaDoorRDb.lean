/- The reader's small methods: over, fail, put. -/
import Derived.Test.YtmlopggainkoiaaDoorRDa
set_option linter.unusedSimpArgs false
set_option linter.unusedVariables false
namespace Go.Proofs.YtmlopggainkoiaaDoor
open Go.RowKit

theorem over_any (w : World) (base R : Nat) (q : RdM) (st : St) (h : RdAt w base R q st) (c : Int) (hl0 : 0 ≤ st.line) (hl1 : st.line ≤ 4611686018427387904) (hc0 : 0 ≤ st.col) (hc1 : st.col ≤ 4611686018427387904) :
    Calls Tryd.prog 47 #[.pointer (some ⟨R, 0, none⟩), .int .i32 c] w (RdP base R q w (overS c st)) := by
  have k0 := h.k0; have k1 := h.k1; have hlt := h.lt; have f0 := h.fz 0; have f1 := h.fz 1
  have HR := hide h; clear h
  cases h10 : (c == 10)
  · have H10 := hide h10
    go_enter Tryd.func47, Tryd.ntmps47
    go_wp2
    go_end0
    have hc : c ≠ 10 := by simpa using H10.out
    have e : overS c st = { st with col := st.col + 1 } := by unfold overS; rw [if_neg hc]
    rw [e]
    exact RdP.same (HR.out.put_ rfl rfl rfl) (RdFr.put _ _)
  · have H10 := hide h10
    go_enter Tryd.func47, Tryd.ntmps47
    go_wp2
    go_end0
    have hc : c = 10 := by simpa using H10.out
    have e : overS c st = { st with line := st.line + 1, col := 1 } := by unfold overS; rw [if_pos hc]
    rw [e]
    have a1 : RdAt (w.setCell ⟨R, 1, none⟩ (.int .i64 (st.col + 1))) base R q { st with col := st.col + 1 } := HR.out.put_ rfl rfl rfl
    have a2 : RdAt ((w.setCell ⟨R, 1, none⟩ (.int .i64 (st.col + 1))).setCell ⟨R, 0, none⟩ (.int .i64 (st.line + 1))) base R q { st with col := st.col + 1, line := st.line + 1 } := a1.put_ rfl rfl rfl
    exact RdP.same (a2.put_ rfl rfl rfl) (((RdFr.put _ _).trans (RdFr.put _ _)).trans (RdFr.put _ _))

theorem fail_any (w : World) (base R : Nat) (q : RdM) (st : St) (h : RdAt w base R q st) (e l c : Int) :
    Calls Tryd.prog 45 #[.pointer (some ⟨R, 0, none⟩), .int .i64 e, .agg #[.int .i64 l, .int .i64 c]] w (RdP base R q w (failS e l c st)) := by
  have k8 := h.k8; have k9 := h.k9; have k10 := h.k10; have hlt := h.lt; have f8 := h.fz 8; have f9 := h.fz 9; have f10 := h.fz 10
  have HR := hide h; clear h
  cases h0 : (st.wrong == 0)
  · have H0 := hide h0
    go_enter Tryd.func45, Tryd.ntmps45
    go_wp2
    go_end0
    have hc : st.wrong ≠ 0 := by simpa using H0.out
    have e : failS e l c st = st := by unfold failS; rw [if_neg hc]
    rw [e]
    exact RdP.same (HR.out.alloc _) (RdFr.of_below (by repeat (first | exact Below.refl _ _ | assumption | refine Below.alloc ?_ (by simp [size_ext]; try omega) _ | refine Below.ext ?_ (by simp [size_ext]; try omega) _ | refine Below.drew ?_ | refine Below.setCell ?_ (by simp [size_ext]; try omega) _)))
  · have H0 := hide h0
    have hc : st.wrong = 0 := by simpa using h0
    rw [hc] at k8 h0
    have HC := hide hc; clear hc
    go_enter Tryd.func45, Tryd.ntmps45
    go_wp2
    go_region
    all_goals go_wp2
    all_goals go_end0
    have e0 : failS e l c st = { st with wrong := e, al := l, ac := c } := by unfold failS; rw [if_pos HC.out]
    rw [e0]
    have a1 : RdAt (w.setCell ⟨R, 8, none⟩ (.int .i64 e)) base R q { st with wrong := e } := HR.out.put_ rfl rfl rfl
    have a2 : RdAt ((w.setCell ⟨R, 8, none⟩ (.int .i64 e)).setCell ⟨R, 9, none⟩ (.int .i64 l)) base R q { st with wrong := e, al := l } := a1.put_ rfl rfl rfl
    have a3 : RdAt (((w.setCell ⟨R, 8, none⟩ (.int .i64 e)).setCell ⟨R, 9, none⟩ (.int .i64 l)).setCell ⟨R, 10, none⟩ (.int .i64 c)) base R q { st with wrong := e, al := l, ac := c } := a2.put_ rfl rfl rfl
    exact RdP.same ((a3.alloc _).drew) ((((RdFr.put _ _).trans (RdFr.put _ _)).trans (RdFr.put _ _)).trans (RdFr.of_below ((Below.refl _ _).alloc (Nat.le_refl _) _).drew))
theorem info_Word : (Tryd.prog.info? 31).map (fun i => (i.zero, i.size, i.bytes)) = some (some (.agg #[.int .i64 0, .string ⟨#[]⟩, .int .i64 0, .int .i64 0, .int .i64 0]), 5, 48) := by kernel_rfl
theorem put_any (w : World) (base R : Nat) (q : RdM) (st : St) (h : RdAt w base R q st) (k n : Int) (s : ByteArray) (hk : InI k) (hn : InI n) (hs : s.size ≤ maxLen) (hfl : InI st.fl) (hfc : InI st.fc) (hlen : st.words.length ≤ 1099511627776) :
    Calls Tryd.prog 87 #[.pointer (some ⟨R, 0, none⟩), .int .i64 k, .string s, .int .i64 n] w (RdP base R q w (putS k s n st)) := by
  have k7 := h.k7; have k3 := h.k3; have k4 := h.k4; have hlt := h.lt; have f7 := h.fz 7
  obtain ⟨i0, hi, hz, hz1, hz2⟩ := info_parts info_Word
  obtain ⟨tv, wv⟩ := q
  have HI0 := hide hi; have HZ := hide hz; have HZ1 := hide hz1; have HZ2 := hide hz2
  clear hi hz hz1 hz2
  have HNW := hide (show st.words.length ≤ 1099511627776 from hlen); clear hlen
  have HR := hide h; clear h
  have HK := hide hk; have HN := hide hn; have HS := hide hs; have HL := hide hfl; have HC := hide hfc
  clear hk hn hs hfl hfc
  have hbR : base < w.heap.size := by have := HR.out.hR; omega
  simp only at k7
  go_enter Tryd.func87, Tryd.ntmps87
  go_wp2_with fail
  refine wp_region_row_last (wv.ownBlock) [20] [19, 20] 23 (by kernel_rfl) rfl rfl rfl (by kernel_rfl) (by kernel_rfl) ?_
  simp only [List.take_succ_cons, List.take_zero]
  repeat (refine flowG_known (by kernel_rfl) (fun K hK => ?_); go_simp; (first | (refine hK _ ?_; clear hK K) | (apply Exists.intro; refine ⟨fun w' => ?_, hK _ ?_⟩; (fail); clear hK K)))
  repeat (refine flowG_known0 (by kernel_rfl) (by kernel_rfl) (fun K hK => ?_); go_simp; (first | (refine hK _ ?_; clear hK K) | (apply Exists.intro; refine ⟨fun _ => ?_, hK _ ?_⟩; (fail); clear hK K)))
  refine flowG_keep [] (LitP 31 [.int .i64 k, .string s, .int .i64 n, .int .i64 st.fl, .int .i64 st.fc] 1) (by kernel_rfl) (LitP.stable_ rfl) (by kernel_rfl) ?_ ?_
  · intro u hu
    try simp only [List.nil_append, List.cons_append, useH_f, useH_t, useH_nil]
    go_simp
    exact ⟨LitP.mk_ (us := [.int .i64 k, .string s, .int .i64 n, .int .i64 st.fl, .int .i64 st.fc]) (by rw [size_ext]), onW_row_alloc hu⟩
  refine flowG_keep [true] (PushP base 31 (fun _ => False) wv.ownBlock w.heap.size (st.words ++ [⟨k, s, n, st.fl, st.fc⟩])) (by kernel_rfl) (PushP.stable_ rfl) (by kernel_rfl) ?_ ?_
  · intro u hu
    try simp only [List.nil_append, List.cons_append, useH_f, useH_t, useH_nil]
    intro v1 hv1
    have hRu := HR.out.ext u
    exact HeldAt.push_own (α := Word) rfl (.tmp 12) (.tmp 27) 23 rfl base 31 i0 _ 48 Tryd.underlying23 HI0.out HZ.out HZ1.out HZ2.out rfl (by decide) (fun _ => False) (fun _ => False) wv _ ⟨k, s, n, st.fl, st.fc⟩ [.int .i64 k, .string s, .int .i64 n, .int .i64 st.fl, .int .i64 st.fc] 31 rfl hRu.words (by go_simp) hv1
      (Word.mk_ (x := ⟨k, s, n, st.fl, st.fc⟩) HK.out HS.out HN.out HL.out HC.out) (fun _ h => h.elim) (fun g hg h => h) (fun b h => h.elim) (by have := HNW.out; omega) (by have := HNW.out; omega) (by rw [size_ext]; omega) hu
  repeat (refine flowG_known (by kernel_rfl) (fun K hK => ?_); go_simp; (first | (refine hK _ ?_; clear hK K) | (apply Exists.intro; refine ⟨fun w' => ?_, hK _ ?_⟩; (fail); clear hK K)))
  refine flowG_done [false, true] (by kernel_rfl) ?_
  intro w6 h6
  simp only [List.nil_append, List.cons_append, endH_f, endH_t, endH_nil]
  rintro v8 v9 ⟨hown9, hv9, _⟩
  have HW9 := hide hown9; have HV9 := hide hv9; have H6 := hide h6
  obtain ⟨A9, c9, rfl⟩ := hown9.form
  generalize (st.words ++ [(⟨k, s, n, st.fl, st.fc⟩ : Word)]).length = n9 at hown9 HW9 HV9 hv9 ⊢
  clear hown9 hv9 h6
  have hRne : (some R : Option Nat) ≠ wv.ownBlock := fun e => HR.out.dw e.symm
  have blk6 := hide (show w6.heap[R]? = some (.cells (rdCells ⟨tv, wv⟩ st) 70 (0, 0)) from (H6.out.block R hlt hRne).trans HR.out.blk)
  have c6 : w6.cell? ⟨R, 7, none⟩ = some wv := cell_of_row w6 _ _ _ _ (0, 0) blk6.out
  have f6 : w6.frozen? ⟨R, 7, none⟩ = false := by simp [World.frozen?, blk6.out]
  clear hRne
  go_wp2_with fail
  go_end0
  refine ⟨rfl, ⟨tv, .slice A9 n9 c9⟩, HR.out.put_words (q := ⟨tv, wv⟩) H6.out HW9.out HV9.out, (RdFr.grown (q := ⟨tv, wv⟩) H6.out (fun b hb => .inr (.inr hb))).swap 7 _ ?_⟩
  rintro b (e | e | e)
  · exact .inl (.inl e)
  · exact .inl (.inr (.inl e))
  · rcases HV9.out with h | ⟨g, h, hg⟩
    · exact .inl (.inr (.inr (by rw [← h]; exact e)))
    · change Value.ownBlock (.slice A9 n9 c9) = some b at e
      rw [h] at e; injection e with e; subst e; exact .inr hg
end Go.Proofs.YtmlopggainkoiaaDoor
