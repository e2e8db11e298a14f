/- Walk: MirPlaces. -/
import Derived.Test.YtahblhiolkdnnaaW23
import Derived.Test.YtahblhiolkdnnaaPL6c
import Derived.Test.YtahblhiolkdnnaaW18
set_option linter.unusedSimpArgs false
set_option linter.unusedVariables false
namespace Go.Proofs.Ytahblhiolkdnnaa
open Go.RowKit
def cntI : List Block → Int
  | [] => 0
  | b :: l => b.ins.length + 1 + cntI l
theorem sizeT_cnt : ∀ (l : List Block) (n : Int), sizeT n l + l.length = n + cntI l
  | [], n => by simp [sizeT, cntI]
  | b :: l, n => by simp only [sizeT, cntI, List.length_cons]; have := sizeT_cnt l (n + b.ins.length); omega
theorem needs_ret {m : Machine} {frame n : Int} {t : Term} (h : TermGood m frame n t) (hk : t.kind = 3) {y : Loc} (hy : (needsP t)[0]? = some y) : y.n = m.ret := by
  by_cases e : t.a = -1
  · rw [needsP, if_neg (by omega)] at hy; simp at hy
  · rw [needsP, if_pos (.inr ⟨hk, e⟩)] at hy
    simp at hy
    rw [← hy]; exact h.ret hk e
set_option maxHeartbeats 8000000 in
set_option maxRecDepth 100000 in
theorem placesL_any (w : World) (S S1 S2 : Nat → Prop) (m : Machine) (A1 A2 : Option Addr) (n1 c1 n2 c2 : Nat) (h1 : Sl w S1 A1 n1 c1 m.args) (h2 : Sl w S2 A2 n2 c2 m.saved) (hi : InI m.ret)
    (t : Target) (A : Option Addr) (n c : Nat) (h : Sl w S A n c t.blocks) (hfr : InI t.frame) (hm : SmallT 1048576 t.blocks) (hb : n1 ≤ 1048576 ∧ n2 ≤ 1048576) :
    Calls Try.prog 7 #[.agg #[.int .i64 m.regs, .slice A1 n1 c1, .int .i64 m.ret, .slice A2 n2 c2], .agg #[.int .i64 t.frame, .slice A n c]] w (RetX (.bool true) w) := by
  have hbl := blocksOf_le 1500 (by omega) t.blocks 0 hm.2 (by omega) (by omega)
  obtain ⟨T, hT⟩ : ∃ T, T = blocksOf 1500 0 t.blocks := ⟨_, rfl⟩
  rw [← hT] at hbl
  have HT := hide hT.symm
  clear hT
  have hnn : n ≤ 1048576 := by rw [← h.len]; exact hm.1
  have HN := hide h.len
  have H1 := hide h1; have H2 := hide h2; have HI := hide hi; have HS := hide h; have HM := hide hm; have HF := hide hfr
  have GOOD := hide (right_eq hfr (by rw [h1.len]; omega) (good_of h))
  clear h1 h2 hi h hm hfr
  have hw : IntKind.i64.wrap (T + ((n1 : Int) + n2)) = T + ((n1 : Int) + n2) := IntWalk.i64_in _ (by omega)
  have TGT := hide (show ∀ (w : World) (S : Nat → Prop), Sl w S A n c t.blocks → Calls Try.prog 9 #[.agg #[.int .i64 t.frame, .slice A n c], .int .i64 1500] w (RetX (.int .i64 T) w) from fun w S h => HT.out ▸ targetOf_any w S t 1500 A n c h HM.out (by omega))
  obtain ⟨R, hR⟩ : ∃ R, rightT m t = R := ⟨_, rfl⟩
  have HR := hide hR
  have RT := hide (show ∀ (w : World) (S1 S2 S : Nat → Prop), Sl w S1 A1 n1 c1 m.args → Sl w S2 A2 n2 c2 m.saved → Sl w S A n c t.blocks → Calls Try.prog 11 #[.agg #[.int .i64 m.regs, .slice A1 n1 c1, .int .i64 m.ret, .slice A2 n2 c2], .agg #[.int .i64 t.frame, .slice A n c]] w (RetX (.int .i64 R) w) from
    fun w S1 S2 S h1 h2 h => hR ▸ right_any w S S1 S2 m A1 A2 n1 c1 n2 c2 h1 h2 HI.out t A n c h)
  clear hR
  go_enter Try.func7, Try.ntmps7
  go_wp2_with (go_at_call 8; (with_reducible refine (awake_any _).mono ?_); rintro e _ ⟨rfl, ux, rfl⟩)
  obtain ⟨W, hW⟩ : ∃ W, W = ((w.alloc (.cells #[.int .i64 m.regs, .slice A1 n1 c1, .int .i64 m.ret, .slice A2 n2 c2] 24)).alloc (.cells #[.int .i64 t.frame, .slice A n c] 27)).ext ux := ⟨_, rfl⟩
  have FB := hide (show Below w.heap.size w W by subst hW; exact (by repeat (first | exact Below.refl _ _ | assumption | exact Hd.out (by assumption) | refine Below.alloc ?_ (by first | omega | (simp [size_ext]; try omega)) _ | refine Below.ext ?_ (by first | omega | (simp [size_ext]; try omega)) _ | refine Below.drew ?_ | refine Below.setCell ?_ (by first | omega | (simp [size_ext]; try omega)) _)))
  have fle : w.heap.size ≤ W.heap.size := by subst hW; simp [size_ext]; omega
  have fz0 : w.heap.size < W.heap.size := by subst hW; simp [size_ext]; omega
  have fz1 : w.heap.size + 1 < W.heap.size := by subst hW; simp [size_ext]; omega
  have p0 : W.cell? ⟨w.heap.size, 0, none⟩ = some (.int .i64 m.regs) := by subst hW; go_simp
  have p1 : W.cell? ⟨w.heap.size, 1, none⟩ = some (.slice A1 n1 c1) := by subst hW; go_simp
  have p2 : W.cell? ⟨w.heap.size, 2, none⟩ = some (.int .i64 m.ret) := by subst hW; go_simp
  have p3 : W.cell? ⟨w.heap.size, 3, none⟩ = some (.slice A2 n2 c2) := by subst hW; go_simp
  have q0 : W.cell? ⟨w.heap.size + 1, 0, none⟩ = some (.int .i64 t.frame) := by subst hW; go_simp
  have q1 : W.cell? ⟨w.heap.size + 1, 1, none⟩ = some (.slice A n c) := by subst hW; go_simp
  have K1 : Hd (Sl W S1 A1 n1 c1 m.args) := hide (by subst hW; exact (by repeat (first | assumption | exact Hd.out (by assumption) | apply Sl.alloc | apply Sl.ext | apply Sl.drew | apply Sl.drewN)))
  have K2 : Hd (Sl W S2 A2 n2 c2 m.saved) := hide (by subst hW; exact (by repeat (first | assumption | exact Hd.out (by assumption) | apply Sl.alloc | apply Sl.ext | apply Sl.drew | apply Sl.drewN)))
  have KB : Hd (Sl W S A n c t.blocks) := hide (by subst hW; exact (by repeat (first | assumption | exact Hd.out (by assumption) | apply Sl.alloc | apply Sl.ext | apply Sl.drew | apply Sl.drewN)))
  rw [← hW]
  clear hW H1 H2 HS ux
  by_cases g : T + ((n1 : Int) + n2) > 1500
  · have gd : decide (T + ((n1 : Int) + n2) > 1500) = true := by simpa using g
    refine wp_region_ext (by kernel_rfl) (by kernel_rfl) ?_
    repeat (any_goals (first | go_big_quiet_step ((first | (go_at_call 9; with_reducible exact quiet_retx (TGT.out _ S (KB.out.ext _))) | (go_at_call 10; with_reducible exact quiet_retx (machineOf_any _ (fun _ => True) m A1 A2 n1 c1 n2 c2 ((K1.out.more fun _ _ _ => trivial).ext _) ((K2.out.more fun _ _ _ => trivial).ext _) hb)))) | quiet_step ((first | (go_at_call 9; with_reducible exact quiet_retx (TGT.out _ S (KB.out.ext _))) | (go_at_call 10; with_reducible exact quiet_retx (machineOf_any _ (fun _ => True) m A1 A2 n1 c1 n2 c2 ((K1.out.more fun _ _ _ => trivial).ext _) ((K2.out.more fun _ _ _ => trivial).ext _) hb))))))
    refine wpQuiet_nil ?_
    rintro _ ⟨uq, rfl⟩
    go_wp2
    go_ret; exact RetX.b rfl (by repeat (first | exact Below.refl _ _ | assumption | exact Hd.out (by assumption) | refine Below.alloc ?_ (by first | omega | (simp [size_ext]; try omega)) _ | refine Below.ext ?_ (by first | omega | (simp [size_ext]; try omega)) _ | refine Below.drew ?_ | refine Below.setCell ?_ (by first | omega | (simp [size_ext]; try omega)) _))
  have gd : decide (T + ((n1 : Int) + n2) > 1500) = false := by simpa using g
  by_cases hr0 : R = 0
  case neg =>
    have gr : (R != 0) = true := by simpa using hr0
    refine wp_region_ext (by kernel_rfl) (by kernel_rfl) ?_
    repeat (any_goals (first | go_big_quiet_step ((first | (go_at_call 9; with_reducible exact quiet_retx (TGT.out _ S (KB.out.ext _))) | (go_at_call 10; with_reducible exact quiet_retx (machineOf_any _ (fun _ => True) m A1 A2 n1 c1 n2 c2 ((K1.out.more fun _ _ _ => trivial).ext _) ((K2.out.more fun _ _ _ => trivial).ext _) hb)) | (go_at_call 11; with_reducible exact quiet_retx (RT.out _ S1 S2 S (K1.out.ext _) (K2.out.ext _) (KB.out.ext _))))) | quiet_step ((first | (go_at_call 9; with_reducible exact quiet_retx (TGT.out _ S (KB.out.ext _))) | (go_at_call 10; with_reducible exact quiet_retx (machineOf_any _ (fun _ => True) m A1 A2 n1 c1 n2 c2 ((K1.out.more fun _ _ _ => trivial).ext _) ((K2.out.more fun _ _ _ => trivial).ext _) hb)) | (go_at_call 11; with_reducible exact quiet_retx (RT.out _ S1 S2 S (K1.out.ext _) (K2.out.ext _) (KB.out.ext _)))))))
    refine wpQuiet_nil ?_
    rintro _ ⟨uq, rfl⟩
    go_wp2
    go_ret; exact RetX.b rfl (by repeat (first | exact Below.refl _ _ | assumption | exact Hd.out (by assumption) | refine Below.alloc ?_ (by first | omega | (simp [size_ext]; try omega)) _ | refine Below.ext ?_ (by first | omega | (simp [size_ext]; try omega)) _ | refine Below.drew ?_ | refine Below.setCell ?_ (by first | omega | (simp [size_ext]; try omega)) _))
  have gr : (R != 0) = false := by simpa using hr0
  have TG := hide (tar_good (GOOD.out ▸ (HR.out.trans hr0)))
  clear hr0
  refine wp_region_ext (by kernel_rfl) (by kernel_rfl) ?_
  repeat (any_goals (first | go_big_quiet_step ((first | (go_at_call 9; with_reducible exact quiet_retx (TGT.out _ S (KB.out.ext _))) | (go_at_call 10; with_reducible exact quiet_retx (machineOf_any _ (fun _ => True) m A1 A2 n1 c1 n2 c2 ((K1.out.more fun _ _ _ => trivial).ext _) ((K2.out.more fun _ _ _ => trivial).ext _) hb)) | (go_at_call 11; with_reducible exact quiet_retx (RT.out _ S1 S2 S (K1.out.ext _) (K2.out.ext _) (KB.out.ext _))))) | quiet_step ((first | (go_at_call 9; with_reducible exact quiet_retx (TGT.out _ S (KB.out.ext _))) | (go_at_call 10; with_reducible exact quiet_retx (machineOf_any _ (fun _ => True) m A1 A2 n1 c1 n2 c2 ((K1.out.more fun _ _ _ => trivial).ext _) ((K2.out.more fun _ _ _ => trivial).ext _) hb)) | (go_at_call 11; with_reducible exact quiet_retx (RT.out _ S1 S2 S (K1.out.ext _) (K2.out.ext _) (KB.out.ext _)))))))
  refine wpQuiet_nil ?_
  rintro _ ⟨uq, rfl⟩
  clear gd gr g hw TGT RT
  go_wp2
  go_loopw [5, 6] (fun s i wr => ∃ k : Nat, ∃ acc : Int, k ≤ n ∧ i = .int .i64 k ∧ s = .int .i64 acc ∧ 0 ≤ acc ∧ acc ≤ k * 1048577 ∧ acc + cntI (t.blocks.drop k) = cntI t.blocks ∧ ∃ u : Ext, wr = W.ext u) (fun _ i _ => n - (intOf i).toNat)
  case atStart => exact ⟨0, 0, Nat.zero_le _, rfl, rfl, Int.le_refl _, by omega, by simp, ⟨uq, rfl⟩⟩
  case round =>
    obtain ⟨k, acc, hk, rfl, rfl, ha0, ha1, hacc, u, rfl⟩ := hrel
    have HACC := hide hacc; clear hacc
    by_cases hlt : k < n
    case pos =>
      obtain ⟨b, off, x, Ai, ni, ci, rfl, hb1, hx, hins, i1, i2, i3, i4, y0, y1, y2, y3, y4⟩ := at_Block KB.out hlt
      have hmem := List.mem_of_getElem? hx
      have HX := hide (drop_at hx); clear hx
      have hni : ni ≤ 1048576 := by rw [← hins.len]; exact (HM.out.2 x hmem).1
      have TM := hide (TG.out.term x hmem)
      have IN := hide (TG.out.ins x hmem)
      have HNI := hide hins.len
      have HINS := hide hins
      have IT := hide i2
      clear hins hmem i1 i2 i3 i4
      go_wp2
      obtain ⟨g, hg⟩ : ∃ g, g = W.heap.size + u.blocks.size := ⟨_, rfl⟩
      obtain ⟨W2, hW2⟩ : ∃ W2, W2 = (W.ext u).alloc (.cells #[.slice Ai ni ci, .int .i64 x.term.kind, .int .i64 x.term.a, .int .i64 x.term.to0, .int .i64 x.term.to1] 42) := ⟨_, rfl⟩
      have FB2 := hide (show Below W.heap.size W W2 by subst hW2; exact (Below.of_ext W u (Nat.le_refl _)).alloc (by simp [size_ext]) _)
      have fle2 : W.heap.size ≤ W2.heap.size := FB2.out.size
      have fy0 : w.heap.size < W2.heap.size := by omega
      have fy1 : w.heap.size + 1 < W2.heap.size := by omega
      have fg : g < W2.heap.size := by subst hW2 hg; simp [size_ext]
      have m0 : W2.cell? ⟨w.heap.size, 0, none⟩ = some (.int .i64 m.regs) := by subst hW2; go_simp
      have m1 : W2.cell? ⟨w.heap.size, 1, none⟩ = some (.slice A1 n1 c1) := by subst hW2; go_simp
      have m2 : W2.cell? ⟨w.heap.size, 2, none⟩ = some (.int .i64 m.ret) := by subst hW2; go_simp
      have m3 : W2.cell? ⟨w.heap.size, 3, none⟩ = some (.slice A2 n2 c2) := by subst hW2; go_simp
      have t0 : W2.cell? ⟨w.heap.size + 1, 0, none⟩ = some (.int .i64 t.frame) := by subst hW2; go_simp
      have t1 : W2.cell? ⟨w.heap.size + 1, 1, none⟩ = some (.slice (some ⟨b, off, none⟩) n c) := by subst hW2; go_simp
      have x0 : W2.cell? ⟨g, 0, none⟩ = some (.slice Ai ni ci) := by subst hW2 hg; go_simp
      have x1 : W2.cell? ⟨g, 1, none⟩ = some (.int .i64 x.term.kind) := by subst hW2 hg; go_simp
      have x2 : W2.cell? ⟨g, 2, none⟩ = some (.int .i64 x.term.a) := by subst hW2 hg; go_simp
      have x3 : W2.cell? ⟨g, 3, none⟩ = some (.int .i64 x.term.to0) := by subst hW2 hg; go_simp
      have x4 : W2.cell? ⟨g, 4, none⟩ = some (.int .i64 x.term.to1) := by subst hW2 hg; go_simp
      have J1 : Hd (Sl W2 S1 A1 n1 c1 m.args) := hide (by subst hW2; exact (K1.out.ext _).alloc _)
      have JI : Hd (Sl W2 S Ai ni ci x.ins) := hide (by subst hW2; exact (HINS.out.ext _).alloc _)
      rw [← hW2]
      simp only [← hg]
      clear hW2 hg HINS y0 y1 y2 y3 y4 hb1
      go_loopw [5, 8] (fun s i wr => ∃ j : Nat, ∃ sc : Int, j ≤ ni ∧ i = .int .i64 j ∧ s = .int .i64 sc ∧ sc = acc + j ∧ ∃ v : Ext, wr = W2.ext v) (fun _ i _ => ni - (intOf i).toNat)
      case atStart =>
        obtain ⟨v0, hv0⟩ := ext_refl W2
        exact ⟨0, acc, Nat.zero_le _, rfl, rfl, by simp, v0, hv0⟩
      case round =>
        obtain ⟨j, sc, hj, rfl, rfl, hsc, v, rfl⟩ := hrel
        have HSC := hide hsc
        have sc0 : 0 ≤ sc := by omega
        have sc1 : sc ≤ acc + j := by omega
        clear hsc
        by_cases hlj : j < ni
        case pos =>
          obtain ⟨b2, off2, i, Aa, na, ca, rfl, hb2, hi2, io, idd, ia, ib, ii, ic, iargs, im, z0, z1, z2, z3, z4, z5, z6, z7⟩ := at_Ins JI.out hlj
          have GD := hide (IN.out i (List.mem_of_getElem? hi2))
          have IA := hide ia; have IB := hide ib; have II := hide ii; have ID := hide idd
          clear hi2 io idd ia ib ii ic iargs im
          obtain ⟨l1, hl1⟩ : ∃ l, (readsP m i).length = l := ⟨_, rfl⟩
          obtain ⟨l2, hl2⟩ : ∃ l, (writesP m i).length = l := ⟨_, rfl⟩
          have L1 := hide hl1; have L2 := hide hl2
          have lw : l2 ≤ 1 := by rw [← hl2]; exact GD.out.one
          obtain ⟨z, hz⟩ : ∃ z : Bool, insertedB i.op = z := ⟨_, rfl⟩
          have K8 := hide (show ∀ w, Calls Try.prog 28 #[.int .i64 i.op] w (Ret (.bool z) w) from fun w => hz ▸ inserted_any i.op w)
          have lz := fun e : z = true => GD.out.ins (hz.trans e)
          rw [hl1, hl2] at lz
          have LZ := hide lz
          clear lz hl1 hl2 hz
          have h14 := GD.out.op
          go_wp2
          refine wp_region_flow_ext [] [6, 13, 14, 15] (by kernel_rfl) rfl (by kernel_rfl) ?_
          repeat (refine flow_known (by kernel_rfl) (fun K hK => ?_); go_simp; (first | (refine hK _ ?_; clear hK K) | (apply Exists.intro; refine ⟨fun _ => ?_, hK _ ?_⟩; (fail); clear hK K)))
          refine flow_keep0 (SlP l1 (readsP m i)) (by kernel_rfl) (SlP.stable_ rfl) ?_ ?_
          · intro u
            go_simp
            exact (reads_any _ S1 m A1 A2 n1 c1 n2 c2 ((J1.out.ext v).ext u) hb.1 i Aa na ca IA.out IB.out II.out).mono fun e w' hr => heldSl L1.out ⟨u, rfl⟩ hr
          repeat (refine flow_known (by kernel_rfl) (fun K hK => ?_); go_simp; (first | (refine hK _ ?_; clear hK K) | (apply Exists.intro; refine ⟨fun _ => ?_, hK _ ?_⟩; (fail); clear hK K)))
          refine flow_keep0 (SlP l2 (writesP m i)) (by kernel_rfl) (SlP.stable_ rfl) ?_ ?_
          · intro u
            go_simp
            exact (writes_any _ m A1 A2 n1 c1 n2 c2 i Aa na ca HI.out ID.out II.out).mono fun e w' hr => heldSl L2.out ⟨u, rfl⟩ hr
          refine flow_keep [true, false] (SlP l1 (readsP m i)) (by kernel_rfl) (SlP.stable_ rfl) ?_ ?_
          · intro u
            try simp only [List.nil_append, List.cons_append, useH_f, useH_t, useH_nil]
            rintro v hv
            try simp only [List.nil_append, List.cons_append, useH_f, useH_t, useH_nil]
            go_simp
            exact onW_same ⟨_, rfl⟩
          refine flow_keep [false, true, false] (SlP l2 (writesP m i)) (by kernel_rfl) (SlP.stable_ rfl) ?_ ?_
          · intro u
            try simp only [List.nil_append, List.cons_append, useH_f, useH_t, useH_nil]
            rintro v hv
            try simp only [List.nil_append, List.cons_append, useH_f, useH_t, useH_nil]
            go_simp
            exact onW_same ⟨_, rfl⟩
          refine flow_done [true, true, true, true] (by kernel_rfl) ?_
          intro ua
          simp only [List.nil_append, List.cons_append, endH_f, endH_t, endH_nil]
          rintro v1 _ v2 _ _ ⟨S3, A3, c3, rfl, s3⟩ _ ⟨S4, A4, c4, rfl, s4⟩
          obtain ⟨va, hva⟩ := ext_ext W2 v ua
          rw [hva] at s3 s4 ⊢
          have Z3 := hide s3; have Z4 := hide s4
          clear hva s3 s4
          cases z
          · go_wp2_with (first | (go_at_call 31; (with_reducible refine (all_true _ S3 m t.frame A1 A2 n1 c1 n2 c2 (readsP m i) A3 l1 c3 Z3.out GD.out.reads).mono ?_); rintro e _ ⟨rfl, ux, rfl⟩) | (go_at_call 31; (with_reducible refine (all_true _ S4 m t.frame A1 A2 n1 c1 n2 c2 (writesP m i) A4 l2 c4 (Z4.out.ext _) GD.out.writes).mono ?_); rintro e _ ⟨rfl, ux, rfl⟩) | (go_at_call 28; (with_reducible refine (K8.out _).mono ?_); rintro e w' ⟨rfl, rfl⟩))
            go_roundw
            case rel => exact ⟨j + 1, sc + 1, by omega, by go_num, rfl, by rw [HSC.out]; omega, Below.to_ext (by repeat (first | exact Below.refl _ _ | assumption | exact Hd.out (by assumption) | refine Below.alloc ?_ (by first | omega | (simp [size_ext]; try omega)) _ | refine Below.ext ?_ (by first | omega | (simp [size_ext]; try omega)) _ | refine Below.drew ?_ | refine Below.setCell ?_ (by first | omega | (simp [size_ext]; try omega)) _))⟩
            case measure => simp [intOf]; omega
          · obtain ⟨e1, e2⟩ := LZ.out rfl
            subst e1 e2
            go_wp2_with (first | (go_at_call 31; (with_reducible refine (all_true _ S3 m t.frame A1 A2 n1 c1 n2 c2 (readsP m i) A3 1 c3 Z3.out GD.out.reads).mono ?_); rintro e _ ⟨rfl, ux, rfl⟩) | (go_at_call 31; (with_reducible refine (all_true _ S4 m t.frame A1 A2 n1 c1 n2 c2 (writesP m i) A4 1 c4 (Z4.out.ext _) GD.out.writes).mono ?_); rintro e _ ⟨rfl, ux, rfl⟩) | (go_at_call 28; (with_reducible refine (K8.out _).mono ?_); rintro e w' ⟨rfl, rfl⟩))
            go_roundw
            case rel => exact ⟨j + 1, sc + 1, by omega, by go_num, rfl, by rw [HSC.out]; omega, Below.to_ext (by repeat (first | exact Below.refl _ _ | assumption | exact Hd.out (by assumption) | refine Below.alloc ?_ (by first | omega | (simp [size_ext]; try omega)) _ | refine Below.ext ?_ (by first | omega | (simp [size_ext]; try omega)) _ | refine Below.drew ?_ | refine Below.setCell ?_ (by first | omega | (simp [size_ext]; try omega)) _))⟩
            case measure => simp [intOf]; omega
        case neg =>
          have hjn : j = ni := by omega
          have HJN := hide hjn
          clear hjn
          obtain ⟨l3, hl3⟩ : ∃ l, (needsP x.term).length = l := ⟨_, rfl⟩
          have ln : (l3 : Int) ≤ 1 := by have := TM.out.one; omega
          have L3 := hide hl3
          clear hl3
          go_wp2_with (go_at_call 26; (with_reducible refine (needs_any _ x.term IT.out).mono ?_); rintro e _ ⟨A5, n5, c5, rfl, s5, u5, rfl⟩; obtain ⟨vb, hvb⟩ := ext_ext W2 v u5; rw [hvb] at s5 ⊢; have Z5 := hide s5; clear s5 hvb)
          obtain rfl : n5 = l3 := by rw [← L3.out]; exact Z5.out.len.symm
          have d1 : decide ((n5 : Int) > 1) = false := by simpa using ln
          have hto := TM.out.to0
          have hto1 := TM.out.to1
          rw [HN.out] at hto hto1
          obtain ⟨to0, to0'⟩ := hto
          obtain ⟨to1, to1'⟩ := hto1
          have e0 : decide (x.term.to0 < 0) = false := by simpa using to0
          have e0' : decide (x.term.to0 ≥ (n : Int)) = false := by simpa using to0'
          have e1 : decide (x.term.to1 < 0) = false := by simpa using to1
          have e1' : decide (x.term.to1 ≥ (n : Int)) = false := by simpa using to1'
          clear to0 to0' to1 to1' ln
          obtain ⟨b3, hb3⟩ : ∃ b3 : Bool, (x.term.kind == 3) = b3 := ⟨_, rfl⟩
          obtain ⟨b4, hb4⟩ : ∃ b4 : Bool, decide ((n5 : Int) > 0) = b4 := ⟨_, rfl⟩
          have hb5' : decide (0 < n5) = b4 := by rw [← hb4, decide_eq_decide]; omega
          have hb6' : decide ((0 : Int) < n5) = b4 := hb4
          have hb7' : 0 < n5 ↔ b4 = true := by rw [← hb4, decide_eq_true_eq]; omega
          have first : b3 = true → b4 = true → ∃ b5 off5, ∃ y : Loc, A5 = some ⟨b5, off5, none⟩ ∧ b5 < W2.heap.size + vb.blocks.size ∧ y.n = m.ret ∧ (W2.ext vb).cell? ⟨b5, off5 + 1, none⟩ = some (.int .i64 y.n) := by
            rintro rfl rfl
            obtain ⟨b5, off5, y, hA5, hb5, hy, _, _, hc5⟩ := at_Loc Z5.out (k := 0) (by simpa using hb4)
            refine ⟨b5, off5, y, hA5, by rw [← size_ext]; exact hb5, needs_ret TM.out (by simpa using hb3) hy, by simpa using hc5⟩
          cases b3 <;> cases b4
          case true.true =>
            obtain ⟨b5, off5, y, rfl, hb5, hyn, hc5⟩ := first rfl rfl
            have hyr : (y.n != m.ret) = false := by simp [hyn]
            clear first hyn
            refine wp_region_ext (by kernel_rfl) (by kernel_rfl) ?_
            repeat (any_goals (first | go_big_quiet_step (((go_at_call 31; with_reducible exact quiet_retx (all_true _ _ m t.frame A1 A2 n1 c1 n2 c2 (needsP x.term) _ n5 c5 (Z5.out.ext _) TM.out.needs)))) | quiet_step (((go_at_call 31; with_reducible exact quiet_retx (all_true _ _ m t.frame A1 A2 n1 c1 n2 c2 (needsP x.term) _ n5 c5 (Z5.out.ext _) TM.out.needs))))))
            refine wpQuiet_nil ?_
            rintro _ ⟨uq, rfl⟩
            clear hb3 hb4 hb5' hb6' hb7' hyr hc5 hb5 d1
            go_wp2
            go_loopw [12] (fun i wr => ∃ q : Nat, q ≤ 2 ∧ i = .int .i64 q ∧ ∃ v : Ext, wr = W2.ext v) (fun i _ => 2 - (intOf i).toNat)
            case atStart => exact ⟨0, by omega, rfl, Below.to_ext (by repeat (first | exact Below.refl _ _ | assumption | exact Hd.out (by assumption) | refine Below.alloc ?_ (by first | omega | (simp [size_ext]; try omega)) _ | refine Below.ext ?_ (by first | omega | (simp [size_ext]; try omega)) _ | refine Below.drew ?_ | refine Below.setCell ?_ (by first | omega | (simp [size_ext]; try omega)) _))⟩
            case round =>
              obtain ⟨q, hq, rfl, vq, rfl⟩ := hrel
              have hq3 : q = 0 ∨ q = 1 ∨ q = 2 := by omega
              rcases hq3 with rfl | rfl | rfl
              · go_wp2
                refine wp_region_ext (by kernel_rfl) (by kernel_rfl) ?_
                repeat (any_goals (first | go_big_quiet_step ((fail)) | quiet_step ((fail))))
                refine wpQuiet_nil ?_
                rintro _ ⟨uq, rfl⟩
                go_wp2
                go_roundw
                case rel => exact ⟨1, by omega, rfl, ext_ext _ _ _⟩
                case measure => simp [intOf] <;> omega
              · go_wp2
                refine wp_region_ext (by kernel_rfl) (by kernel_rfl) ?_
                repeat (any_goals (first | go_big_quiet_step ((fail)) | quiet_step ((fail))))
                refine wpQuiet_nil ?_
                rintro _ ⟨uq, rfl⟩
                go_wp2
                go_roundw
                case rel => exact ⟨2, by omega, rfl, ext_ext _ _ _⟩
                case measure => simp [intOf] <;> omega
              · go_wp2
                go_roundw
                case rel => exact ⟨k + 1, sc + 1, by omega, by go_num, rfl, by omega, by have := HSC.out; omega, by have h1 := HACC.out; have h2 := HSC.out; have h3 := HNI.out; have h4 := HJN.out; rw [HX.out] at h1; simp only [cntI] at h1; omega, Below.to_ext (by repeat (first | exact Below.refl _ _ | assumption | exact Hd.out (by assumption) | refine Below.alloc ?_ (by first | omega | (simp [size_ext]; try omega)) _ | refine Below.ext ?_ (by first | omega | (simp [size_ext]; try omega)) _ | refine Below.drew ?_ | refine Below.setCell ?_ (by first | omega | (simp [size_ext]; try omega)) _))⟩
                case measure => simp [intOf] <;> omega
          all_goals
            clear first
            refine wp_region_ext (by kernel_rfl) (by kernel_rfl) ?_
            repeat (any_goals (first | go_big_quiet_step (((go_at_call 31; with_reducible exact quiet_retx (all_true _ _ m t.frame A1 A2 n1 c1 n2 c2 (needsP x.term) _ n5 c5 (Z5.out.ext _) TM.out.needs)))) | quiet_step (((go_at_call 31; with_reducible exact quiet_retx (all_true _ _ m t.frame A1 A2 n1 c1 n2 c2 (needsP x.term) _ n5 c5 (Z5.out.ext _) TM.out.needs))))))
            refine wpQuiet_nil ?_
            rintro _ ⟨uq, rfl⟩
            clear hb3 hb4 hb5' hb6' hb7' d1
            go_wp2
            go_loopw [12] (fun i wr => ∃ q : Nat, q ≤ 2 ∧ i = .int .i64 q ∧ ∃ v : Ext, wr = W2.ext v) (fun i _ => 2 - (intOf i).toNat)
            case atStart => exact ⟨0, by omega, rfl, Below.to_ext (by repeat (first | exact Below.refl _ _ | assumption | exact Hd.out (by assumption) | refine Below.alloc ?_ (by first | omega | (simp [size_ext]; try omega)) _ | refine Below.ext ?_ (by first | omega | (simp [size_ext]; try omega)) _ | refine Below.drew ?_ | refine Below.setCell ?_ (by first | omega | (simp [size_ext]; try omega)) _))⟩
            case round =>
              obtain ⟨q, hq, rfl, vq, rfl⟩ := hrel
              have hq3 : q = 0 ∨ q = 1 ∨ q = 2 := by omega
              rcases hq3 with rfl | rfl | rfl
              · go_wp2
                refine wp_region_ext (by kernel_rfl) (by kernel_rfl) ?_
                repeat (any_goals (first | go_big_quiet_step ((fail)) | quiet_step ((fail))))
                refine wpQuiet_nil ?_
                rintro _ ⟨uq, rfl⟩
                go_wp2
                go_roundw
                case rel => exact ⟨1, by omega, rfl, ext_ext _ _ _⟩
                case measure => simp [intOf] <;> omega
              · go_wp2
                refine wp_region_ext (by kernel_rfl) (by kernel_rfl) ?_
                repeat (any_goals (first | go_big_quiet_step ((fail)) | quiet_step ((fail))))
                refine wpQuiet_nil ?_
                rintro _ ⟨uq, rfl⟩
                go_wp2
                go_roundw
                case rel => exact ⟨2, by omega, rfl, ext_ext _ _ _⟩
                case measure => simp [intOf] <;> omega
              · go_wp2
                go_roundw
                case rel => exact ⟨k + 1, sc + 1, by omega, by go_num, rfl, by omega, by have := HSC.out; omega, by have h1 := HACC.out; have h2 := HSC.out; have h3 := HNI.out; have h4 := HJN.out; rw [HX.out] at h1; simp only [cntI] at h1; omega, Below.to_ext (by repeat (first | exact Below.refl _ _ | assumption | exact Hd.out (by assumption) | refine Below.alloc ?_ (by first | omega | (simp [size_ext]; try omega)) _ | refine Below.ext ?_ (by first | omega | (simp [size_ext]; try omega)) _ | refine Below.drew ?_ | refine Below.setCell ?_ (by first | omega | (simp [size_ext]; try omega)) _))⟩
                case measure => simp [intOf] <;> omega
    case neg =>
      have hkn : k = n := by omega
      have hZ : sizeT n t.blocks = acc := by
        have h1 := sizeT_cnt t.blocks n
        have h2 := HACC.out
        rw [drop_end HN.out hlt] at h2
        have h3 := HN.out
        simp only [cntI] at h2
        omega
      have SZ := hide (show ∀ (w : World), Sl w S A n c t.blocks → Calls Try.prog 17 #[.agg #[.int .i64 t.frame, .slice A n c]] w (RetX (.int .i64 acc) w) from fun w h => hZ ▸ size_any w S t A n c h HM.out)
      clear hZ hkn
      go_wp2_with (first | (go_at_call 32; (with_reducible refine (rightm_eq _ S1 S2 m A1 A2 n1 c1 n2 c2 (K1.out.ext _) (K2.out.ext _) HI.out TG.out.mach).mono ?_); rintro e _ ⟨rfl, ux, rfl⟩) | (go_at_call 17; (with_reducible refine (SZ.out _ ((KB.out.ext _).ext _)).mono ?_); rintro e _ ⟨rfl, ux, rfl⟩))
      go_ret
      exact RetX.b (by simp) (by repeat (first | exact Below.refl _ _ | assumption | exact Hd.out (by assumption) | refine Below.alloc ?_ (by first | omega | (simp [size_ext]; try omega)) _ | refine Below.ext ?_ (by first | omega | (simp [size_ext]; try omega)) _ | refine Below.drew ?_ | refine Below.setCell ?_ (by first | omega | (simp [size_ext]; try omega)) _))
end Go.Proofs.Ytahblhiolkdnnaa
