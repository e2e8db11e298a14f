/- Walk: is a saved register read, or written, by some instruction. -/
import Derived.Test.YtkjipgelbjaggaaM43
set_option linter.unusedSimpArgs false
set_option linter.unusedVariables false
namespace Go.Proofs.Ytkjipgelbjaggaa
open Go.RowKit Go.Maps
def locSaved (m : Machine) (l : Loc) : Bool := !l.slot && hasI l.n m.saved
def insSaved (m : Machine) (i : Ins) : Bool := anyF (locSaved m) (readsP m i ++ writesP m i)
def termSaved (m : Machine) (t : Term) : Bool := match needsP t with | [] => false | l :: _ => hasI l.n m.saved
def blkSaved (m : Machine) (b : Block) : Bool := anyF (insSaved m) b.ins || termSaved m b.term
def readsB (m : Machine) (t : Target) : Bool := anyF (blkSaved m) t.blocks
theorem readsP_few (m : Machine) (i : Ins) : (readsP m i).length ≤ m.args.length + 2 := by
  unfold readsP
  repeat' split
  all_goals (try simp [regsL])
  all_goals (try omega)
theorem writesP_few (m : Machine) (i : Ins) : (writesP m i).length ≤ 1 := by
  unfold writesP
  repeat' split
  all_goals simp
/-- a slice in new memory -/
def SlIv {α : Type} [Rep α] (n : Nat) (xs : List α) : Nat → Nat → Post := fun lo hi v w => ∃ A c, v = .slice A n c ∧ Sl w (fun b => lo ≤ b ∧ b < hi) A n c xs
theorem SlIv.stable_ {α : Type} [Rep α] {F : World → Prop} {n : Nat} {xs : List α} {mem : Bool} (hm : mem = true) (lo hi : Nat) : stable F mem (SlIv n xs lo hi) :=
  stable_mem hm fun _ _ u ⟨A, c, hv, h⟩ => ⟨A, c, hv, h.ext u⟩
section
variable (w : World) (S1 S2 S3 : Nat → Prop) (m : Machine) (A1 A2 : Option Addr) (n1 c1 n2 c2 : Nat) (h1 : Sl w S1 A1 n1 c1 m.args) (h2 : Sl w S2 A2 n2 c2 m.saved) (hi : InI m.ret) (t : Target) (A : Option Addr) (n c : Nat) (h : Sl w S3 A n c t.blocks)
    (hm1 : n1 ≤ 1048576) (hm : n ≤ 1048576) (hms : ∀ b ∈ t.blocks, b.ins.length ≤ 1048576)
include h1 h2 hi h hm1 hm hms
set_option maxHeartbeats 4000000 in
set_option maxRecDepth 100000 in
theorem reads9_any : Calls Try.prog 15 #[.agg #[.int .i64 m.regs, .slice A1 n1 c1, .int .i64 m.ret, .slice A2 n2 c2], .agg #[.int .i64 t.frame, .slice A n c]] w (RetX (.bool (readsB m t)) w) := by
  have HI := hide hi; have HMS := hide hms
  have H1 := hide h1; have H2 := hide h2; have HT := hide h
  have HL := hide h.len
  obtain ⟨i0, hi0, hz, hz1, hz2⟩ := info_parts info_Loc
  have HI0 := hide hi0; have HZ := hide hz; have HZ1 := hide hz1; have HZ2 := hide hz2
  clear hi hms h1 h2 h hi0 hz hz1 hz2
  obtain ⟨R, hR⟩ : ∃ R, R = readsB m t := ⟨_, rfl⟩
  rw [← hR]
  have HR := hide hR
  clear hR
  go_enter Try.func15, Try.ntmps15
  go_wp2_with fail
  obtain ⟨W, hW⟩ : ∃ W, W = ((w.alloc (.cells #[.int .i64 m.regs, .slice A1 n1 c1, .int .i64 m.ret, .slice A2 n2 c2] 24)).alloc (.cells #[.int .i64 t.frame, .slice A n c] 27)) := ⟨_, rfl⟩
  have FB := hide (show Below w.heap.size w W by subst hW; exact (by repeat (first | exact Below.refl _ _ | assumption | refine Below.alloc ?_ (by simp [size_ext]; try omega) _ | refine Below.ext ?_ (by simp [size_ext]; try omega) _ | refine Below.drew ?_ | refine Below.setCell ?_ (by simp [size_ext]; try omega) _)))
  have HWs := hide (show W.heap.size = w.heap.size + 1 + 1 by subst hW; simp)
  have HMb := hide (show W.heap[w.heap.size]? = some (.cells #[.int .i64 m.regs, .slice A1 n1 c1, .int .i64 m.ret, .slice A2 n2 c2] 24 (0, 0)) by
    subst hW; rw [Below.heap_alloc _ _ _ (by simp), heap_alloc_new])
  have HTb := hide (show W.heap[w.heap.size + 1]? = some (.cells #[.int .i64 t.frame, .slice A n c] 27 (0, 0)) by
    have := heap_alloc_new (w.alloc (.cells #[.int .i64 m.regs, .slice A1 n1 c1, .int .i64 m.ret, .slice A2 n2 c2] 24)) (.cells #[.int .i64 t.frame, .slice A n c] 27)
    simp only [World.size_alloc] at this
    subst hW; exact this)
  have H1W := hide (H1.out.belowAll FB.out); have H2W := hide (H2.out.belowAll FB.out); have HTW := hide (HT.out.belowAll FB.out)
  rw [← hW]
  clear hW H1 H2 HT
  go_loopw [5] (fun i wr => ∃ k : Nat, k ≤ n ∧ i = .int .i64 k ∧ R = anyF (blkSaved m) (t.blocks.drop k) ∧ Below W.heap.size W wr ∧ W.heap.size ≤ wr.heap.size) (fun i _ => n - (intOf i).toNat)
  case atStart => exact ⟨0, Nat.zero_le _, rfl, HR.out, Below.refl _ _, Nat.le_refl _⟩
  case round =>
    obtain ⟨V, rfl⟩ : ∃ V, V = wr := ⟨_, rfl⟩
    obtain ⟨k, hk, rfl, hr, hb, hs⟩ := hrel
    have HRk := hide hr; have HBk := hide hb; have HSk := hide hs
    clear hr hb hs
    have hMk := hide ((HBk.out.block w.heap.size (by have := HWs.out; omega)).trans HMb.out)
    have hTk := hide ((HBk.out.block (w.heap.size + 1) (by have := HWs.out; omega)).trans HTb.out)
    have f0 : w.heap.size < V.heap.size := by have := HWs.out; have := HSk.out; omega
    have f1 : w.heap.size + 1 < V.heap.size := by have := HWs.out; have := HSk.out; omega
    have t1 : V.cell? ⟨w.heap.size + 1, 1, none⟩ = some (.slice A n c) := cell_of_row V _ _ _ _ (0, 0) hTk.out
    have m0 : V.cell? ⟨w.heap.size, 0, none⟩ = some (.int .i64 m.regs) := cell_of_row V _ _ _ _ (0, 0) hMk.out
    have m1 : V.cell? ⟨w.heap.size, 1, none⟩ = some (.slice A1 n1 c1) := cell_of_row V _ _ _ _ (0, 0) hMk.out
    have m2 : V.cell? ⟨w.heap.size, 2, none⟩ = some (.int .i64 m.ret) := cell_of_row V _ _ _ _ (0, 0) hMk.out
    have m3 : V.cell? ⟨w.heap.size, 3, none⟩ = some (.slice A2 n2 c2) := cell_of_row V _ _ _ _ (0, 0) hMk.out
    by_cases hlt : k < n
    · obtain ⟨gb, off, x, Ai, ni, ci, hA, hgb, hx, hins, it1, it2, it3, it4, z0, z1, z2, z3, z4⟩ := at_Block (HTW.out.belowAll HBk.out) hlt
      subst hA
      have hni : ni ≤ 1048576 := by rw [← hins.len]; exact HMS.out x (List.mem_of_getElem? hx)
      have HX := hide (drop_at hx)
      have HINS := hide hins; have HNI := hide hins.len
      have IT := hide it2
      clear hx hins it1 it2 it3 it4
      go_wp2_with fail
      go_loopw [6] (fun i wq => ∃ j : Nat, j ≤ ni ∧ i = .int .i64 j ∧ R = (anyF (insSaved m) (x.ins.drop j) || termSaved m x.term || anyF (blkSaved m) (t.blocks.drop (k + 1))) ∧ Below V.heap.size V wq ∧ V.heap.size ≤ wq.heap.size) (fun i _ => ni - (intOf i).toNat)
      case atStart => exact ⟨0, Nat.zero_le _, rfl, by rw [HRk.out, HX.out]; simp [anyF, blkSaved], Below.refl _ _, Nat.le_refl _⟩
      case round =>
        obtain ⟨wq, rfl⟩ : ∃ wq, wq = wr := ⟨_, rfl⟩
        obtain ⟨j, hj, rfl, hr, hb, hs⟩ := hrel
        have HRj := hide hr; have HBj := hide hb; have HSj := hide hs
        clear hr hb hs
        have y0 : w.heap.size < wq.heap.size := by have := HSj.out; omega
        have y1 : w.heap.size + 1 < wq.heap.size := by have := HSj.out; omega
        have yt : wq.cell? ⟨w.heap.size + 1, 1, none⟩ = some (.slice (some ⟨gb, off, none⟩) n c) := by rw [HBj.out.cell f1]; exact t1
        have ym0 : wq.cell? ⟨w.heap.size, 0, none⟩ = some (.int .i64 m.regs) := by rw [HBj.out.cell f0]; exact m0
        have ym1 : wq.cell? ⟨w.heap.size, 1, none⟩ = some (.slice A1 n1 c1) := by rw [HBj.out.cell f0]; exact m1
        have ym2 : wq.cell? ⟨w.heap.size, 2, none⟩ = some (.int .i64 m.ret) := by rw [HBj.out.cell f0]; exact m2
        have ym3 : wq.cell? ⟨w.heap.size, 3, none⟩ = some (.slice A2 n2 c2) := by rw [HBj.out.cell f0]; exact m3
        have yz0 : wq.cell? ⟨gb, off + k * 5, none⟩ = some (.slice Ai ni ci) := by rw [HBj.out.cell hgb]; exact z0
        have yz1 : wq.cell? ⟨gb, off + k * 5 + 1, none⟩ = some (.int .i64 x.term.kind) := by rw [HBj.out.cell hgb]; exact z1
        have yz2 : wq.cell? ⟨gb, off + k * 5 + 2, none⟩ = some (.int .i64 x.term.a) := by rw [HBj.out.cell hgb]; exact z2
        have yz3 : wq.cell? ⟨gb, off + k * 5 + 3, none⟩ = some (.int .i64 x.term.to0) := by rw [HBj.out.cell hgb]; exact z3
        have yz4 : wq.cell? ⟨gb, off + k * 5 + 4, none⟩ = some (.int .i64 x.term.to1) := by rw [HBj.out.cell hgb]; exact z4
        have hgb' : gb < wq.heap.size := by have := HSj.out; omega
        have HF := hide (HBk.out.trans (HBj.out.mono HSk.out))
        have H1q := hide (H1W.out.belowAll HF.out); have H2q := hide (H2W.out.belowAll HF.out)
        clear t1 m0 m1 m2 m3 z0 z1 z2 z3 z4
        by_cases hlj : j < ni
        · obtain ⟨g2, off2, i, Aa, na, ca, hA, hg2, hi2, io, idd, ia, ib, ii, ic, iargs, im, q0, q1, q2, q3, q4, q5, q6, q7⟩ := at_Ins (HINS.out.belowAll HBj.out) hlj
          subst hA
          have IA := hide ia; have IB := hide ib; have II := hide ii; have ID := hide idd
          have HXj := hide (drop_at hi2)
          clear hi2 io idd ia ib ii ic iargs im
          obtain ⟨l1, hl1⟩ : ∃ l, (readsP m i).length = l := ⟨_, rfl⟩
          obtain ⟨l2, hl2⟩ : ∃ l, (writesP m i).length = l := ⟨_, rfl⟩
          have L1 := hide hl1; have L2 := hide hl2
          have lf1 : l1 ≤ 1048578 := by have := readsP_few m i; have := H1W.out.len; omega
          have lf2 : l2 ≤ 1 := by have := writesP_few m i; omega
          clear hl1 hl2
          go_wp2_with fail
          refine wp_region_flowI [10, 21] 22 (by kernel_rfl) rfl (by kernel_rfl) (by kernel_rfl) ?_
          simp only [List.take_succ_cons, List.take_zero, List.drop_succ_cons, List.drop_zero]
          repeat (refine flowI_known (by kernel_rfl) (fun K hK => ?_); go_simp; (first | (refine hK _ ?_; clear hK K) | (apply Exists.intro; refine ⟨fun _ => ?_, hK _ ?_⟩; (fail); clear hK K)))
          refine flowI_keep0 (OwnIv l1 70 (fun _ => False) (readsP m i)) (by kernel_rfl) (OwnIv.stable_ rfl) ?_ ?_
          · intro u
            go_simp
            refine (reads_own _ S1 m A1 A2 n1 c1 n2 c2 (H1q.out.ext u) hm1 i Aa na ca IA.out IB.out II.out).mono ?_
            rintro e _ ⟨A', n', c', S', rfl, ho, _, x', rfl⟩
            obtain rfl : n' = l1 := by obtain ⟨_, _, e⟩ := ho.form; injection e with _ e _; rw [e]; exact L1.out
            exact ⟨_, rfl, ⟨A', c', rfl, ho.locs.base_le (by rw [size_ext]; omega), fun g hg => (ho.below_ g hg).2⟩, onW_ext ⟨_, rfl⟩ ⟨x', rfl⟩⟩
          repeat (refine flowI_known (by kernel_rfl) (fun K hK => ?_); go_simp; (first | (refine hK _ ?_; clear hK K) | (apply Exists.intro; refine ⟨fun _ => ?_, hK _ ?_⟩; (fail); clear hK K)))
          refine flowI_keep0 (SlIv l2 (writesP m i)) (by kernel_rfl) (SlIv.stable_ rfl) ?_ ?_
          · intro u
            go_simp
            refine (writes_any _ m A1 A2 n1 c1 n2 c2 i Aa na ca HI.out ID.out II.out).mono ?_
            rintro e _ ⟨A', n', c', rfl, hs, x', rfl⟩
            obtain rfl : n' = l2 := by rw [← L2.out]; exact hs.len.symm
            refine ⟨_, rfl, ⟨A', c', rfl, hs.more fun b hb h => ⟨by rw [size_ext] at h; exact h, hb⟩⟩, onW_ext ⟨_, rfl⟩ ⟨x', rfl⟩⟩
          refine flowI_done [true, true] rfl ?_
          intro γ u hap
          simp only [List.nil_append, List.cons_append, List.map_cons, List.map_nil, atG, endH_f, endH_t, endH_nil]
          rintro _ ⟨Ba, ca', rfl, hoa, hga⟩ _ ⟨Bs, cs, rfl, hos⟩
          have a10 := hap.1 ⟨10, some 38, OwnIv l1 70 (fun _ => False) (readsP m i)⟩ (by simp)
          have a21 := hap.1 ⟨21, some 49, SlIv l2 (writesP m i)⟩ (by simp)
          have hp := hap.2 ⟨10, some 38, OwnIv l1 70 (fun _ => False) (readsP m i)⟩ (by simp) ⟨21, some 49, SlIv l2 (writesP m i)⟩ (by simp) (by simp)
          simp only [Nat.zero_add, Nat.reduceAdd] at hoa hga hos a10 a21 hp
          obtain ⟨Y, hY⟩ : ∃ Y, Y = wq.ext u := ⟨_, rfl⟩
          have HFY := hide (show Below wq.heap.size wq Y by rw [hY]; exact Below.of_ext _ _ (Nat.le_refl _))
          have hYs : wq.heap.size ≤ Y.heap.size := by rw [hY]; simp [size_ext]
          rw [← hY] at hoa hos a10 a21 ⊢
          generalize (γ 10).1 = lo1 at hoa hga a10 hp
          generalize (γ 10).2 = hi1 at hoa hga a10 hp
          generalize (γ 21).1 = lo2 at hos a21 hp
          generalize (γ 21).2 = hi2 at hos a21 hp
          have hown : ∀ g, (Value.slice Ba l1 ca').ownBlock = some g → ¬ (lo2 ≤ g ∧ g < hi2) := fun g hg h => by
            have h1 := (hoa.below_ g hg).1; have h2 := hga g hg; omega
          have HO := hide (hoa.base_le a10.1)
          have HS2 := hide hos
          have HOW := hide hown
          have hh2 := a21.2.2
          clear hY hap hoa hos hga hown hp a10 a21
          go_simp
          refine wpList_push_sl (α := Loc) Y rfl (.tmp 38) (.tmp 49) 61 rfl wq.heap.size 70 i0 _ 16 Try.underlying61 HI0.out HZ.out HZ1.out HZ2.out rfl (by decide) (fun _ => False) (fun b => lo2 ≤ b ∧ b < hi2) (fun b => lo2 ≤ b ∧ b < hi2) _ (readsP m i) (writesP m i) rfl HO.out Bs l2 cs rfl HS2.out (fun _ h => h.elim) (fun _ _ h => h) HOW.out (fun b h => by have := h.2; omega) (by rw [L1.out]; omega) (by rw [L1.out]; omega) hYs ?_
          intro v' w1 ho' hg' _
          obtain ⟨A7, c7, rfl⟩ := ho'.form
          obtain ⟨ls, hls⟩ : ∃ ls, ls = readsP m i ++ writesP m i := ⟨_, rfl⟩
          have hlen : ls.length = l1 + l2 := by rw [hls, List.length_append, L1.out, L2.out]
          rw [← hls] at ho' ⊢
          have HLS := hide hls
          have HF1 := hide (show Below wq.heap.size wq w1 from HFY.out.grown hg' hYs fun k hk => (HO.out.below_ k hk).1)
          have HL7 := hide (ho'.slo (S' := fun _ => True) fun _ _ _ => trivial)
          have h1s : wq.heap.size ≤ w1.heap.size := Nat.le_trans hYs hg'.size
          obtain ⟨nl, hnl⟩ : ∃ nl, nl = ls.length := ⟨_, rfl⟩
          rw [← hnl] at HL7 ⊢
          have HNL := hide hnl
          have hnl2 : nl ≤ 1048579 := by omega
          have H2x := hide (H2q.out.belowAll HF1.out)
          have HFx := hide (HBj.out.trans (HF1.out.mono HSj.out))
          have x0 : w.heap.size < w1.heap.size := by omega
          have HFw1 := hide (FB.out.trans ((HF.out.trans (HF1.out.mono (by have := HSj.out; have := HSk.out; omega))).mono (by have := HWs.out; omega)))
          have xm0 : w1.cell? ⟨w.heap.size, 0, none⟩ = some (.int .i64 m.regs) := by rw [HF1.out.cell y0]; exact ym0
          have xm1 : w1.cell? ⟨w.heap.size, 1, none⟩ = some (.slice A1 n1 c1) := by rw [HF1.out.cell y0]; exact ym1
          have xm2 : w1.cell? ⟨w.heap.size, 2, none⟩ = some (.int .i64 m.ret) := by rw [HF1.out.cell y0]; exact ym2
          have xm3 : w1.cell? ⟨w.heap.size, 3, none⟩ = some (.slice A2 n2 c2) := by rw [HF1.out.cell y0]; exact ym3
          clear hls hnl hlen ho' hg' HO HS2 HOW hh2 HFY q0 q1 q2 q3 q4 q5 q6 q7 yt ym0 ym1 ym2 ym3 yz0 yz1 yz2 yz3 yz4
          go_wp2_with fail
          go_loopw [8] (fun i wz => ∃ e : Nat, e ≤ nl ∧ i = .int .i64 e ∧ R = (anyF (locSaved m) (ls.drop e) || anyF (insSaved m) (x.ins.drop (j + 1)) || termSaved m x.term || anyF (blkSaved m) (t.blocks.drop (k + 1))) ∧ ∃ u, wz = w1.ext u) (fun i _ => nl - (intOf i).toNat)
          case atStart => exact ⟨0, Nat.zero_le _, rfl, by rw [HRj.out, HXj.out, HLS.out]; simp [anyF, insSaved], ext_refl _⟩
          case round =>
            obtain ⟨e, he, rfl, hr, u1, rfl⟩ := hrel
            have HRe := hide hr
            clear hr
            by_cases hle : e < nl
            · obtain ⟨g3, off3, l, hA, hg3, hl, hln, v0, v1⟩ := at_Loc HL7.out hle
              subst hA
              have HXe := hide (drop_at hl)
              clear hl hln
              obtain ⟨bs, hbs⟩ : ∃ bs : Bool, l.slot = bs := ⟨_, rfl⟩
              obtain ⟨hs, hhs⟩ : ∃ hs : Bool, hasI l.n m.saved = hs := ⟨_, rfl⟩
              have HLoc := hide (show locSaved m l = (!bs && hs) by unfold locSaved; rw [hbs, hhs])
              rw [hbs] at v0
              have HIS := hide (fun (W' : World) (v : Value) (h : Below w1.heap.size w1 W') => hhs ▸ isSaved_any W' S2 m v A2 n2 c2 (H2x.out.belowAll h) l.n)
              clear hbs hhs
              have hnot : (!bs) = (!bs) := rfl
              cases bs
              · cases hs
                · go_wp2_with fail
                  refine wp_region_flow_ext [] [] (by kernel_rfl) rfl (by kernel_rfl) ?_
                  repeat (refine flow_known (by kernel_rfl) (fun K hK => ?_); go_simp; (first | (refine hK _ ?_; clear hK K) | (apply Exists.intro; refine ⟨fun _ => ?_, hK _ ?_⟩; ((go_at_call 26; exact HIS.out _ _ (by repeat (first | exact Below.refl _ _ | assumption | refine Below.alloc ?_ (by simp [size_ext]; try omega) _ | refine Below.ext ?_ (by simp [size_ext]; try omega) _ | refine Below.drew ?_ | refine Below.setCell ?_ (by simp [size_ext]; try omega) _)))); clear hK K)))
                  refine flow_done [] (by kernel_rfl) ?_
                  intro ux
                  simp only [List.nil_append, List.cons_append, endH_f, endH_t, endH_nil]
                  go_simp
                  go_wp2_with fail
                  go_roundw
                  case rel => exact ⟨e + 1, by omega, by go_num, by rw [HRe.out, HXe.out]; simp [anyF, HLoc.out], Below.to_ext (by repeat (first | exact Below.refl _ _ | assumption | exact Hd.out (by assumption) | refine Below.alloc ?_ (by first | omega | (simp [size_ext]; try omega)) _ | refine Below.ext ?_ (by first | omega | (simp [size_ext]; try omega)) _ | refine Below.drew ?_ | refine Below.setCell ?_ (by first | omega | (simp [size_ext]; try omega)) _))⟩
                  case measure => simp [intOf]; omega
                · go_wp2_with fail
                  refine wp_region_flow_ext [] [] (by kernel_rfl) rfl (by kernel_rfl) ?_
                  repeat (refine flow_known (by kernel_rfl) (fun K hK => ?_); go_simp; (first | (refine hK _ ?_; clear hK K) | (apply Exists.intro; refine ⟨fun _ => ?_, hK _ ?_⟩; ((go_at_call 26; exact HIS.out _ _ (by repeat (first | exact Below.refl _ _ | assumption | refine Below.alloc ?_ (by simp [size_ext]; try omega) _ | refine Below.ext ?_ (by simp [size_ext]; try omega) _ | refine Below.drew ?_ | refine Below.setCell ?_ (by simp [size_ext]; try omega) _)))); clear hK K)))
                  refine flow_done [] (by kernel_rfl) ?_
                  intro ux
                  simp only [List.nil_append, List.cons_append, endH_f, endH_t, endH_nil]
                  go_simp
                  go_wp2_with fail
                  go_ret
                  exact RetX.b (by rw [HRe.out, HXe.out]; simp [anyF, HLoc.out]) (HFw1.out.trans ((show Below w1.heap.size w1 _ from (by repeat (first | exact Below.refl _ _ | assumption | exact Hd.out (by assumption) | refine Below.alloc ?_ (by first | omega | (simp [size_ext]; try omega)) _ | refine Below.ext ?_ (by first | omega | (simp [size_ext]; try omega)) _ | refine Below.drew ?_ | refine Below.setCell ?_ (by first | omega | (simp [size_ext]; try omega)) _))).mono (by omega)))
              · go_wp2_with fail
                refine wp_region_flow_ext [] [] (by kernel_rfl) rfl (by kernel_rfl) ?_
                repeat (refine flow_known (by kernel_rfl) (fun K hK => ?_); go_simp; (first | (refine hK _ ?_; clear hK K) | (apply Exists.intro; refine ⟨fun _ => ?_, hK _ ?_⟩; (fail); clear hK K)))
                refine flow_done [] (by kernel_rfl) ?_
                intro ux
                simp only [List.nil_append, List.cons_append, endH_f, endH_t, endH_nil]
                go_simp
                go_wp2_with fail
                go_roundw
                case rel => exact ⟨e + 1, by omega, by go_num, by rw [HRe.out, HXe.out]; simp [anyF, HLoc.out], Below.to_ext (by repeat (first | exact Below.refl _ _ | assumption | exact Hd.out (by assumption) | refine Below.alloc ?_ (by first | omega | (simp [size_ext]; try omega)) _ | refine Below.ext ?_ (by first | omega | (simp [size_ext]; try omega)) _ | refine Below.drew ?_ | refine Below.setCell ?_ (by first | omega | (simp [size_ext]; try omega)) _))⟩
                case measure => simp [intOf]; omega
            · obtain rfl : e = nl := by omega
              go_wp2_with fail
              go_roundw
              case rel => exact ⟨j + 1, by omega, by go_num, by rw [HRe.out, List.drop_of_length_le (by rw [← HNL.out]; exact Nat.le_refl _)]; simp [anyF], HFx.out.trans ((show Below w1.heap.size w1 _ from (by repeat (first | exact Below.refl _ _ | assumption | exact Hd.out (by assumption) | refine Below.alloc ?_ (by first | omega | (simp [size_ext]; try omega)) _ | refine Below.ext ?_ (by first | omega | (simp [size_ext]; try omega)) _ | refine Below.drew ?_ | refine Below.setCell ?_ (by first | omega | (simp [size_ext]; try omega)) _))).mono (by have := HSj.out; omega)), by simp only [size_ext]; have := HSj.out; omega⟩
              case measure => simp [intOf]; omega
        · obtain rfl : j = ni := by omega
          have HNE := hide (show R = (termSaved m x.term || anyF (blkSaved m) (t.blocks.drop (k + 1))) by rw [HRj.out, List.drop_of_length_le (by rw [HNI.out]; exact Nat.le_refl _)]; simp [anyF])
          clear HRj
          go_wp2_with (go_at_call 19; (with_reducible refine (needs_any _ x.term IT.out).mono ?_); rintro e _ ⟨A5, n5, c5, rfl, s5, u5, rfl⟩; have Z5 := hide s5; clear s5)
          obtain ⟨wp, hwp⟩ : ∃ wp, wp = wq.ext u5 := ⟨_, rfl⟩
          have HFP := hide (show Below wq.heap.size wq wp by rw [hwp]; exact Below.of_ext _ _ (Nat.le_refl _))
          have hwps : wq.heap.size ≤ wp.heap.size := by rw [hwp]; simp [size_ext]
          rw [← hwp] at Z5 ⊢
          clear hwp
          have p0 : w.heap.size < wp.heap.size := by omega
          have pm0 : wp.cell? ⟨w.heap.size, 0, none⟩ = some (.int .i64 m.regs) := by rw [HFP.out.cell y0]; exact ym0
          have pm1 : wp.cell? ⟨w.heap.size, 1, none⟩ = some (.slice A1 n1 c1) := by rw [HFP.out.cell y0]; exact ym1
          have pm2 : wp.cell? ⟨w.heap.size, 2, none⟩ = some (.int .i64 m.ret) := by rw [HFP.out.cell y0]; exact ym2
          have pm3 : wp.cell? ⟨w.heap.size, 3, none⟩ = some (.slice A2 n2 c2) := by rw [HFP.out.cell y0]; exact ym3
          clear ym0 ym1 ym2 ym3 yz0 yz1 yz2 yz3 yz4 yt
          have HNl := hide Z5.out.len
          have hn5 := Z5.out.nle
          have HFwq := hide (FB.out.trans ((HF.out.trans (HFP.out.mono (by have := HSj.out; have := HSk.out; omega))).mono (by have := HWs.out; omega)))
          have H2p := hide (H2q.out.belowAll HFP.out)
          have HIS := hide (fun (W' : World) (v : Value) (r : Int) (h : Below wp.heap.size wp W') => isSaved_any W' S2 m v A2 n2 c2 (H2p.out.belowAll h) r)
          by_cases h0 : 0 < n5
          · obtain ⟨g3, off3, l, hA, hg3, hl, hln, v0, v1⟩ := at_Loc Z5.out h0
            subst hA
            simp only [Nat.zero_mul, Nat.add_zero] at v0 v1
            obtain ⟨ls, hls⟩ : ∃ ls, ls = needsP x.term := ⟨_, rfl⟩
            have HT0 := hide (show termSaved m x.term = hasI l.n m.saved by
              unfold termSaved
              rw [← hls] at hl ⊢
              cases ls with
              | nil => simp at hl
              | cons a b => simp at hl; rw [hl])
            obtain ⟨hs, hhs⟩ : ∃ hs : Bool, hasI l.n m.saved = hs := ⟨_, rfl⟩
            have HHS := hide hhs
            have HIS2 := hide (fun (W' : World) (v : Value) (h : Below wp.heap.size wp W') => hhs ▸ HIS.out W' v l.n h)
            clear hls hl hln hhs
            have hgt : decide ((n5 : Int) > 0) = true := by simp; omega
            cases hs
            · refine wp_region_flow_ext [] [] (by kernel_rfl) rfl (by kernel_rfl) ?_
              repeat (refine flow_known (by kernel_rfl) (fun K hK => ?_); go_simp; (first | (refine hK _ ?_; clear hK K) | (apply Exists.intro; refine ⟨fun _ => ?_, hK _ ?_⟩; ((go_at_call 26; exact HIS2.out _ _ (by repeat (first | exact Below.refl _ _ | assumption | refine Below.alloc ?_ (by simp [size_ext]; try omega) _ | refine Below.ext ?_ (by simp [size_ext]; try omega) _ | refine Below.drew ?_ | refine Below.setCell ?_ (by simp [size_ext]; try omega) _)))); clear hK K)))
              refine flow_done [] (by kernel_rfl) ?_
              intro ux
              simp only [List.nil_append, List.cons_append, endH_f, endH_t, endH_nil]
              go_simp
              go_wp2_with fail
              go_roundw
              case rel => exact ⟨k + 1, by omega, by go_num, by rw [HNE.out, HT0.out, HHS.out]; rfl, HBk.out.trans ((HBj.out.trans ((HFP.out.trans ((show Below wp.heap.size wp _ from (by repeat (first | exact Below.refl _ _ | assumption | exact Hd.out (by assumption) | refine Below.alloc ?_ (by first | omega | (simp [size_ext]; try omega)) _ | refine Below.ext ?_ (by first | omega | (simp [size_ext]; try omega)) _ | refine Below.drew ?_ | refine Below.setCell ?_ (by first | omega | (simp [size_ext]; try omega)) _))).mono hwps)).mono HSj.out)).mono HSk.out), by simp only [size_ext]; have := HSj.out; have := HSk.out; omega⟩
              case measure => simp [intOf]; omega
            · refine wp_region_flow_ext [] [] (by kernel_rfl) rfl (by kernel_rfl) ?_
              repeat (refine flow_known (by kernel_rfl) (fun K hK => ?_); go_simp; (first | (refine hK _ ?_; clear hK K) | (apply Exists.intro; refine ⟨fun _ => ?_, hK _ ?_⟩; ((go_at_call 26; exact HIS2.out _ _ (by repeat (first | exact Below.refl _ _ | assumption | refine Below.alloc ?_ (by simp [size_ext]; try omega) _ | refine Below.ext ?_ (by simp [size_ext]; try omega) _ | refine Below.drew ?_ | refine Below.setCell ?_ (by simp [size_ext]; try omega) _)))); clear hK K)))
              refine flow_done [] (by kernel_rfl) ?_
              intro ux
              simp only [List.nil_append, List.cons_append, endH_f, endH_t, endH_nil]
              go_simp
              go_wp2_with fail
              go_ret
              exact RetX.b (by rw [HNE.out, HT0.out, HHS.out]; rfl) (HFwq.out.trans ((show Below wp.heap.size wp _ from (by repeat (first | exact Below.refl _ _ | assumption | exact Hd.out (by assumption) | refine Below.alloc ?_ (by first | omega | (simp [size_ext]; try omega)) _ | refine Below.ext ?_ (by first | omega | (simp [size_ext]; try omega)) _ | refine Below.drew ?_ | refine Below.setCell ?_ (by first | omega | (simp [size_ext]; try omega)) _))).mono (by omega)))
          · have h00 : n5 = 0 := by omega
            have hgt : decide ((n5 : Int) > 0) = false := by rw [h00]; decide
            have HT0 := hide (show termSaved m x.term = false by
              unfold termSaved
              rw [List.eq_nil_of_length_eq_zero (HNl.out.trans h00)])
            clear h00
            refine wp_region_flow_ext [] [] (by kernel_rfl) rfl (by kernel_rfl) ?_
            repeat (refine flow_known (by kernel_rfl) (fun K hK => ?_); go_simp; (first | (refine hK _ ?_; clear hK K) | (apply Exists.intro; refine ⟨fun _ => ?_, hK _ ?_⟩; (fail); clear hK K)))
            refine flow_done [] (by kernel_rfl) ?_
            intro ux
            simp only [List.nil_append, List.cons_append, endH_f, endH_t, endH_nil]
            go_simp
            go_wp2_with fail
            go_roundw
            case rel => exact ⟨k + 1, by omega, by go_num, by rw [HNE.out, HT0.out]; rfl, HBk.out.trans ((HBj.out.trans ((HFP.out.trans ((show Below wp.heap.size wp _ from (by repeat (first | exact Below.refl _ _ | assumption | exact Hd.out (by assumption) | refine Below.alloc ?_ (by first | omega | (simp [size_ext]; try omega)) _ | refine Below.ext ?_ (by first | omega | (simp [size_ext]; try omega)) _ | refine Below.drew ?_ | refine Below.setCell ?_ (by first | omega | (simp [size_ext]; try omega)) _))).mono hwps)).mono HSj.out)).mono HSk.out), by simp only [size_ext]; have := HSj.out; have := HSk.out; omega⟩
            case measure => simp [intOf]; omega
    · obtain rfl : k = n := by omega
      go_wp2_with fail
      go_ret
      exact RetX.b (by rw [HRk.out, List.drop_of_length_le (by rw [HL.out]; exact Nat.le_refl _)]; rfl) (FB.out.trans (HBk.out.mono (by have := HWs.out; omega)))
end
end Go.Proofs.Ytkjipgelbjaggaa
