/- law04: walks: what an end needs; lines in parts (plain). law04: walks: an end's line. -/
import Derived.Test.YtljglhaeonbfoaaGreatDoorG28
import Derived.Test.YtljglhaeonbfoaaGreatDoorG26
set_option linter.unusedSimpArgs false
set_option linter.unusedVariables false
namespace Go.Proofs.YtljglhaeonbfoaaGreatDoor
open Go.RowKit
set_option maxRecDepth 100000 in
set_option maxHeartbeats 8000000 in
theorem needs_ir (t : Term) (w : World) (h : OkT4 t) (hr : termB t = true) : Calls Tryz.prog 73 #[tmV t] w (fun e w' => ∃ A n c, e = .returned (.slice A n c) ∧ Sl w' (fun b => w.heap.size ≤ b) A n c (if t.a = 0 then [] else [t.a]) ∧ ∃ u, w' = w.ext u) := by
 obtain ⟨W0, hW0⟩ : ∃ W, w.alloc (.cells #[.int .i64 t.kind, .int .i64 t.a, .int .i64 t.to0, .int .i64 t.to1] 50) = W := ⟨_, rfl⟩
 obtain ⟨C, hC⟩ : ∃ C, w.heap.size = C := ⟨_, rfl⟩
 have hrow : W0.heap[C]? = some (.cells #[.int .i64 t.kind, .int .i64 t.a, .int .i64 t.to0, .int .i64 t.to1] 50 (0, 0)) := by rw [← hW0, ← hC]; exact heap_alloc_new w _
 have c0 : W0.cell? ⟨C, 0, none⟩ = some (.int .i64 t.kind) := cell_of_row W0 C _ _ _ (0, 0) hrow
 have c1 : W0.cell? ⟨C, 1, none⟩ = some (.int .i64 t.a) := cell_of_row W0 C _ _ _ (0, 0) hrow
 have c2 : W0.cell? ⟨C, 2, none⟩ = some (.int .i64 t.to0) := cell_of_row W0 C _ _ _ (0, 0) hrow
 have c3 : W0.cell? ⟨C, 3, none⟩ = some (.int .i64 t.to1) := cell_of_row W0 C _ _ _ (0, 0) hrow
 have cl : C < W0.heap.size := (Array.getElem?_eq_some_iff.1 hrow).1
 have HB0 := hide (show Below w.heap.size w W0 from by rw [← hW0]; exact (Below.refl _ _).alloc (Nat.le_refl _) _)
 have HBL := hide (show w.heap.size ≤ W0.heap.size from HB0.out.size)
 have HT := hide (show Calls Tryz.prog 66 #[tmV t] W0 (RetX (.bool true) W0) from hr ▸ isTerm_ir t W0 h)
 have HI := hide h.2.1
 have HCQ := hide hC
 obtain ⟨l, hl⟩ : ∃ l, (if t.a = 0 then [] else [t.a]) = l := ⟨_, rfl⟩
 rw [hl]
 have HLQ := hide hl
 clear hrow h hr hl
 by_cases ha : t.a = 0
 ·have hb : (t.a == 0) = true := by simpa using ha
  have HA := hide ha
  have hl : l = [] := by rw [← HLQ.out, if_pos ha]
  subst hl
  clear ha HLQ
  go_enter Tryz.func73, Tryz.ntmps73
  go_wp2_with (go_at_call 66; (with_reducible refine HT.out.mono ?_); rintro e _ ⟨rfl, u, rfl⟩)
  go_ret
  exact ⟨none, 0, 0, rfl, Sl.zero_, (HB0.out.ext HBL.out u).to_ext⟩
 ·have hb : (t.a == 0) = false := by simpa using ha
  have HA := hide ha
  have hl : l = [t.a] := by rw [← HLQ.out, if_neg ha]
  subst hl
  clear ha HLQ
  go_enter Tryz.func73, Tryz.ntmps73
  go_wp2_with (go_at_call 66; (with_reducible refine HT.out.mono ?_); rintro e _ ⟨rfl, u, rfl⟩)
  go_ret
  exact ⟨_, 1, 1, rfl, Sl.lit (S := fun _ => False) (us := [.int .i64 t.a]) (by simp [size_ext]) (RepL.single ⟨rfl, HI.out⟩) rfl (by decide) (fun _ h => h.elim) (by have := HBL.out; have := HCQ.out; simp [size_ext]; omega), ((HB0.out.ext HBL.out u).alloc (by have := HBL.out; simp [size_ext]; omega) _).to_ext⟩
def leftP (d : Int) : List Pt4 := if d ≠ 0 then [.vars [d], .str tLeft] else []
def insP4 (i : Ins) : List Pt4 :=
 if i.op = 1 then leftP i.dst ++ [.str tConst, .int i.imm]
 else if i.op = 11 then leftP i.dst ++ [.str tLoad, .vars [i.a], .int i.imm]
 else if i.op = 12 then [.str tStore, .vars [i.a], .int i.imm, .vars [i.b]]
 else if i.op = 13 then leftP i.dst ++ [.str tCall, .int i.callee, .vars i.args]
 else if i.op = 14 then leftP i.dst ++ [.vars [i.a]]
 else leftP i.dst ++ [.str (opT i.op), .vars [i.a, i.b]]
def termP4 (t : Term) : List Pt4 :=
 if t.kind = 1 then [.str tArrow, .int t.to0]
 else if t.kind = 2 then [.vars [t.a], .str tArrow, .int t.to0, .int t.to1]
 else if t.kind = 3 then [.str tReturn, .vars (if t.a = 0 then [] else [t.a])]
 else [.str tTrap]
theorem allW_app (a b : List Pt4) : allW (a ++ b) = allW a ++ allW b := by unfold allW; rw [List.flatMap_append]
theorem allW_left {d : Int} (h : d ≠ 0 → vOk d = true) : allW (leftP d) = (leftWs d).map (·.text) := by
 unfold leftP leftWs
 split
 ·rename_i hd
  show [docVar d, tLeft] = [(vrW d).text, tLeft]
  rw [docVar_vr (h hd)]
 ·rfl
theorem vars_text {l : List Int} (h : ∀ x ∈ l, vOk x = true) : l.map docVar = (l.map vrW).map (·.text) := by
 rw [List.map_map]
 exact List.map_congr_left fun x hx => docVar_vr (h x hx)
theorem insP4_words {i : Ins} (h : InsR i) : allW (insP4 i) = (insWs i).map (·.text) := by
 obtain ⟨⟨o1, o2⟩, hm, hcall, hno, hdst, hdst0, ha, ha0, hb, hb0, himm, himm0⟩ := h
 unfold insP4 insWs
 by_cases e1 : i.op = 1
 ·rw [if_pos e1, if_pos e1, allW_app, List.map_append, allW_left (fun _ => hdst (by omega) (by omega))]; rfl
 rw [if_neg e1, if_neg e1]
 by_cases e2 : i.op = 11
 ·rw [if_pos e2, if_pos e2, allW_app, List.map_append, allW_left (fun _ => hdst (by omega) (by omega))]
  show _ ++ [tLoad, docVar i.a, itoaB i.imm] = _ ++ [tLoad, (vrW i.a).text, itoaB i.imm]
  rw [docVar_vr (ha (by omega) (by omega))]
 rw [if_neg e2, if_neg e2]
 by_cases e3 : i.op = 12
 ·rw [if_pos e3, if_pos e3]
  show [tStore, docVar i.a, itoaB i.imm, docVar i.b] = [tStore, (vrW i.a).text, itoaB i.imm, (vrW i.b).text]
  rw [docVar_vr (ha (by omega) (by omega)), docVar_vr (hb (by omega) (.inr e3))]
 rw [if_neg e3, if_neg e3]
 by_cases e4 : i.op = 13
 ·obtain ⟨_, _, _, c1, c2, hd, l1, l2⟩ := hcall e4
  rw [if_pos e4, if_pos e4, allW_app, List.map_append, allW_left hd]
  have e : allW [.str tCall, .int i.callee, .vars i.args] = tCall :: itoaB i.callee :: i.args.map docVar := by simp [allW, ptW]
  rw [e, vars_text l2]
  rfl
 rw [if_neg e4, if_neg e4]
 by_cases e5 : i.op = 14
 ·rw [if_pos e5, if_pos e5, allW_app, List.map_append, allW_left (fun _ => hdst (by omega) (by omega))]
  show _ ++ [docVar i.a] = _ ++ [(vrW i.a).text]
  rw [docVar_vr (ha (by omega) (by omega))]
 rw [if_neg e5, if_neg e5, allW_app, List.map_append, allW_left (fun _ => hdst (by omega) (by omega))]
 show _ ++ [opT i.op, docVar i.a, docVar i.b] = _ ++ [opT i.op, (vrW i.a).text, (vrW i.b).text]
 rw [docVar_vr (ha (by omega) (by omega)), docVar_vr (hb (by omega) (.inl (by omega)))]
theorem termP4_words {t : Term} (h : TermR t) : allW (termP4 t) = (termWs t).map (·.text) := by
 obtain ⟨⟨k1, k2⟩, hj, hb, hr, ht, ⟨x1, x2⟩, ⟨y1, y2⟩⟩ := h
 unfold termP4 termWs
 by_cases e1 : t.kind = 1
 ·rw [if_pos e1, if_pos e1]; rfl
 rw [if_neg e1, if_neg e1]
 by_cases e2 : t.kind = 2
 ·rw [if_pos e2, if_pos e2]
  show [docVar t.a, tArrow, itoaB t.to0, itoaB t.to1] = [(vrW t.a).text, tArrow, itoaB t.to0, itoaB t.to1]
  rw [docVar_vr (hb e2)]
 rw [if_neg e2, if_neg e2]
 by_cases e3 : t.kind = 3
 ·rw [if_pos e3, if_pos e3]
  by_cases ha : t.a = 0
  ·rw [if_pos ha, if_pos ha]; rfl
  ·rw [if_neg ha, if_neg ha]
   show [tReturn, docVar t.a] = [tReturn, (vrW t.a).text]
   rw [docVar_vr ((hr e3).1 ha)]
 ·rw [if_neg e3, if_neg e3]; rfl
theorem lineX_parts {ps : List Pt4} {ws : List Word} (h : allW ps = ws.map (·.text)) : joinX (allW ps) ++ ⟨#[10]⟩ = lineX ws := by rw [h]; rfl
end Go.Proofs.YtljglhaeonbfoaaGreatDoor
namespace Go.Proofs.YtljglhaeonbfoaaGreatDoor
open Go.RowKit
theorem pInt4 {w : World} {S : Nat → Prop} {n : Int} (h : InI n) : Rep.is w S (Pt4.int n) [.iface 3 (.int .i64 n)] := ⟨rfl, h⟩
theorem pStr4 {w : World} {S : Nat → Prop} {s : ByteArray} (h : s.size ≤ 1024) : Rep.is w S (Pt4.str s) [.iface 9 (.string s)] := ⟨rfl, h⟩
theorem pVars4 {w : World} {S : Nat → Prop} {A : Option Addr} {n c : Nat} {l : List Int} (h : Sl w S A n c l) (hn : n ≤ 1024) : Rep.is w S (Pt4.vars l) [.iface 22 (.slice A n c)] := ⟨A, n, c, rfl, h, hn⟩
theorem repP4 {w : World} {S : Nat → Prop} {p : Pt4} {v : Value} {ps : List Pt4} {vs : List Value} (h : Rep.is w S p [v]) (g : RepL w S ps vs) : RepL w S (p :: ps) (v :: vs) := ⟨[v], vs, rfl, h, g⟩
theorem repN4 {w : World} {S : Nat → Prop} : RepL w S ([] : List Pt4) [] := rfl
theorem row4_lit (W : World) (g : Nat) (hg : g = W.heap.size) (S : Nat → Prop) (ps : List Pt4) (us : List Value) (n : Nat) (hl : ps.length = n) (hr : RepL W S ps us) (hn : n ≤ 64) (hv : VarsP W) {ws : List Word} (hne : ws ≠ []) (hw : allW ps = ws.map (·.text)) :
  Calls Tryz.prog 27 #[.slice (some ⟨g, 0, none⟩) n n] (W.alloc (.cells us.toArray 20)) (RetX (.string (lineX ws)) (W.alloc (.cells us.toArray 20))) := by
 have h := row4_any (W.alloc (.cells us.toArray 20)) (fun _ => True) (some ⟨g, 0, none⟩) n n ps (Sl.lit (S := S) (us := us) hg hr hl (by omega) (fun _ _ => trivial) trivial) hn (by rw [hw]; simpa using hne) (hv.alloc _)
 rw [lineX_parts hw] at h
 exact h
theorem sl1 {W : World} {x : Int} (g : Nat) (hg : g = W.heap.size) (hx : InI x) : Sl (W.alloc (.cells #[.int .i64 x] 3)) (fun _ => True) (some ⟨g, 0, none⟩) 1 1 [x] :=
 Sl.lit (S := fun _ => False) (us := [.int .i64 x]) hg (RepL.single ⟨rfl, hx⟩) rfl (by decide) (fun _ h => h.elim) trivial
set_option maxRecDepth 100000 in
set_option maxHeartbeats 16000000 in
theorem lineTerm_any (t : Term) (w : World) (h : TermR t) (hv : VarsP w) : Calls Tryz.prog 29 #[tmV t] w (RetX (.string (lineX (termWs t))) w) := by
 have hw := termP4_words h
 have hne : termWs t ≠ [] := by unfold termWs; repeat (split <;> try simp)
 have htb : termB t = true := by have := (termB_iff t).2 h; simp only [Bool.and_eq_true] at this; exact this.1
 have hin : OkT4 t := by
  obtain ⟨⟨k1, k2⟩, hj, hb, hr, ht, ⟨x1, x2⟩, ⟨y1, y2⟩⟩ := h
  refine ⟨by unfold InI; omega, ?_, by unfold InI; omega, by unfold InI; omega⟩
  have : 0 ≤ t.a ∧ t.a ≤ 200 := by
   by_cases e1 : t.kind = 1
   ·have := (hj e1).1; omega
   by_cases e2 : t.kind = 2
   ·have := vOk_in (hb e2); omega
   by_cases e3 : t.kind = 3
   ·by_cases ha : t.a = 0
    ·omega
    ·have := vOk_in ((hr e3).1 ha); omega
   ·have := (ht (by omega)).1; omega
  unfold InI; omega
 have hk := h.k
 clear h
 obtain ⟨W0, hW0⟩ : ∃ W, w.alloc (.cells #[.int .i64 t.kind, .int .i64 t.a, .int .i64 t.to0, .int .i64 t.to1] 50) = W := ⟨_, rfl⟩
 obtain ⟨C, hC⟩ : ∃ C, w.heap.size = C := ⟨_, rfl⟩
 have hrow : W0.heap[C]? = some (.cells #[.int .i64 t.kind, .int .i64 t.a, .int .i64 t.to0, .int .i64 t.to1] 50 (0, 0)) := by rw [← hW0, ← hC]; exact heap_alloc_new w _
 have c0 : W0.cell? ⟨C, 0, none⟩ = some (.int .i64 t.kind) := cell_of_row W0 C _ _ _ (0, 0) hrow
 have c1 : W0.cell? ⟨C, 1, none⟩ = some (.int .i64 t.a) := cell_of_row W0 C _ _ _ (0, 0) hrow
 have c2 : W0.cell? ⟨C, 2, none⟩ = some (.int .i64 t.to0) := cell_of_row W0 C _ _ _ (0, 0) hrow
 have c3 : W0.cell? ⟨C, 3, none⟩ = some (.int .i64 t.to1) := cell_of_row W0 C _ _ _ (0, 0) hrow
 have cl : C < W0.heap.size := (Array.getElem?_eq_some_iff.1 hrow).1
 have HB0 := hide (show Below w.heap.size w W0 from by rw [← hW0]; exact (Below.refl _ _).alloc (Nat.le_refl _) _)
 have HBL := hide (show w.heap.size ≤ W0.heap.size from HB0.out.size)
 have HV := hide (show VarsP W0 from by rw [← hW0]; exact hv.alloc _)
 obtain ⟨T, hT⟩ : ∃ T, lineX (termWs t) = T := ⟨_, rfl⟩
 have HIN := hide hin
 clear hrow hv
 by_cases k1 : t.kind = 1
 ·have hp : termP4 t = [.str tArrow, .int t.to0] := if_pos k1
  have HR := hide (row4_lit W0 W0.heap.size rfl (fun _ => True) _ [.iface 9 (.string ⟨#[226, 134, 146]⟩), .iface 3 (.int .i64 t.to0)] 2 rfl (repP4 (pStr4 (by decide)) (repP4 (pInt4 hin.2.2.1) repN4)) (by decide) HV.out hne (hp ▸ hw))
  rw [hT] at HR ⊢
  have hb : (t.kind == 1) = true := by simpa using k1
  clear k1 hp hw hne htb hin hT hk
  go_enter Tryz.func29, Tryz.ntmps29
  go_wp2_with (go_at_call 27; (with_reducible refine HR.out.mono ?_); rintro e _ ⟨rfl, u, rfl⟩)
  go_ret
  exact ⟨rfl, ((HB0.out.alloc HBL.out _).ext (by have := HBL.out; simp; omega) u).to_ext⟩
 have b1 : (t.kind == 1) = false := by simpa using k1
 by_cases k2 : t.kind = 2
 ·have hp : termP4 t = [.vars [t.a], .str tArrow, .int t.to0, .int t.to1] := (if_neg k1).trans (if_pos k2)
  have HR := hide (row4_lit (W0.alloc (.cells #[.int .i64 t.a] 3)) (W0.heap.size + 1) (by simp) (fun _ => True) _ [.iface 22 (.slice (some ⟨W0.heap.size, 0, none⟩) 1 1), .iface 9 (.string ⟨#[226, 134, 146]⟩), .iface 3 (.int .i64 t.to0), .iface 3 (.int .i64 t.to1)] 4 rfl (repP4 (pVars4 (sl1 _ rfl hin.2.1) (by decide)) (repP4 (pStr4 (by decide)) (repP4 (pInt4 hin.2.2.1) (repP4 (pInt4 hin.2.2.2) repN4)))) (by decide) (HV.out.alloc _) hne (hp ▸ hw))
  rw [hT] at HR ⊢
  have hb : (t.kind == 2) = true := by simpa using k2
  clear k1 k2 hp hw hne htb hin hT hk
  go_enter Tryz.func29, Tryz.ntmps29
  go_wp2_with (go_at_call 27; (with_reducible refine HR.out.mono ?_); rintro e _ ⟨rfl, u, rfl⟩)
  go_ret
  exact ⟨rfl, (((HB0.out.alloc HBL.out _).alloc (by have := HBL.out; simp; omega) _).ext (by have := HBL.out; simp; omega) u).to_ext⟩
 have b2 : (t.kind == 2) = false := by simpa using k2
 by_cases k3 : t.kind = 3
 ·have hp : termP4 t = [.str tReturn, .vars (if t.a = 0 then [] else [t.a])] := (if_neg k1).trans ((if_neg k2).trans (if_pos k3))
  have HN := hide (needs_ir t W0 HIN.out htb)
  obtain ⟨l, hl⟩ : ∃ l, (if t.a = 0 then [] else [t.a]) = l := ⟨_, rfl⟩
  rw [hl] at HN hp
  have hll : l.length ≤ 1 := by rw [← hl]; split <;> simp
  have HR := hide (fun (W : World) (A : Option Addr) (n c : Nat) (hs : Sl W (fun b => W0.heap.size ≤ b) A n c l) (hv : VarsP W) (g : Nat) (hg : g = W.heap.size) => row4_lit W g hg (fun _ => True) _ [.iface 9 (.string ⟨#[114, 101, 116, 117, 114, 110]⟩), .iface 22 (.slice A n c)] 2 rfl (repP4 (pStr4 (by decide)) (repP4 (pVars4 (hs.more fun _ _ _ => trivial) (by have := hs.len; omega)) repN4)) (by decide) hv hne (hp ▸ hw))
  rw [hT] at HR ⊢
  have hb : (t.kind == 3) = true := by simpa using k3
  clear k1 k2 k3 hp hw hne htb hin hT hk hl hll
  go_enter Tryz.func29, Tryz.ntmps29
  go_wp2_with (first | (go_at_call 73; (with_reducible refine HN.out.mono ?_); rintro e _ ⟨A, n, c, rfl, hs, u, rfl⟩; have HS := hide hs; clear hs) | (go_at_call 27; (with_reducible refine (HR.out _ A n c HS.out (HV.out.ext u) _ (by simp [size_ext])).mono ?_); rintro e _ ⟨rfl, u2, rfl⟩))
  go_ret
  exact ⟨rfl, (((HB0.out.ext HBL.out u).alloc (by have := HBL.out; simp [size_ext]; omega) _).ext (by have := HBL.out; simp [size_ext]; omega) u2).to_ext⟩
 have b3 : (t.kind == 3) = false := by simpa using k3
 ·have hp : termP4 t = [.str tTrap] := (if_neg k1).trans ((if_neg k2).trans (if_neg k3))
  have HR := hide (row4_lit W0 W0.heap.size rfl (fun _ => True) _ [.iface 9 (.string ⟨#[116, 114, 97, 112]⟩)] 1 rfl (repP4 (pStr4 (by decide)) repN4) (by decide) HV.out hne (hp ▸ hw))
  rw [hT] at HR ⊢
  clear k1 k2 k3 hp hw hne htb hin hT hk
  go_enter Tryz.func29, Tryz.ntmps29
  go_wp2_with (go_at_call 27; (with_reducible refine HR.out.mono ?_); rintro e _ ⟨rfl, u, rfl⟩)
  go_ret
  exact ⟨rfl, ((HB0.out.alloc HBL.out _).ext (by have := HBL.out; simp; omega) u).to_ext⟩
end Go.Proofs.YtljglhaeonbfoaaGreatDoor
