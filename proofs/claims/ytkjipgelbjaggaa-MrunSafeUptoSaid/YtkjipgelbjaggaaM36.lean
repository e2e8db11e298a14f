/- Walk: a run begins. -/
import Derived.Test.YtkjipgelbjaggaaM35
set_option linter.unusedSimpArgs false
set_option linter.unusedVariables false
namespace Go.Proofs.Ytkjipgelbjaggaa
open Go.RowKit Go.Maps
theorem upd_upd (f : Loc → Option Int) (x : Loc) (a b : Option Int) : upd (upd f x a) x b = upd f x b := by funext z; unfold upd; split <;> rfl
theorem RunAt.put_first {w w' : World} {base X K K' : Nat} {q : RunM} {r : RunS} (h : RunAt w base X K q r) {f : Loc → Option Int} (hg : w.grownBy w' (some q.bf)) (hf : CMap w' q.bf K' f) (hK : K ≤ K') : RunAt w' base X K' q { r with first := f } := by
  have hk : ∀ b, b < w.heap.size → b ≠ q.bf → w'.heap[b]? = w.heap[b]? := fun b hl hb => hg.block b hl (fun e => hb (Option.some.inj e))
  have hs := hg.size
  have hS : ∀ b, q.S b → b ≠ q.bf := fun b hb => (not_mine (h.dS b hb).1).2.2.1
  exact ⟨h.hX, (hk _ h.lt h.d1).trans h.blk, (h.cells.keep (hk _ h.cells.lt h.d2)).mono hK, hf,
    h.args.keep hs (fun b hb hl => hk b hl (hS b hb)), h.saved.keep hs (fun b hb hl => hk b hl (hS b hb)), h.blocks.keep hs (fun b hb hl => hk b hl (hS b hb)),
    h.mem.keep hs (fun b hb _ => hb.elim) (fun g hg => hk g (h.mem.below_ g hg).2 (h.dm g hg).2.2.1), h.answers.keep hs (fun b hb hl => hk b hl (hS b hb)),
    h.calls.keep hs (fun b hb hl => hk b hl (not_mine (h.dSo b hb).1).2.2.1) (fun g hg => hk g (h.calls.below_ g hg).2 (h.dc g hg).2.2), h.hbc, h.hbf, h.d0, h.d1, h.d2, h.dm, h.dc, fun b hb => ⟨(h.dS b hb).1, Nat.lt_of_lt_of_le (h.dS b hb).2 hs⟩,
    fun b hb => ⟨(h.dSo b hb).1, Nat.lt_of_lt_of_le (h.dSo b hb).2 hs⟩⟩
def cs1 (saved first : List Int) : Nat → Loc → Option Int
  | 0 => fun _ => none
  | k + 1 => upd (cs1 saved first k) ⟨false, saved.getD k 0⟩ (some (first.getD k 0))
def cs2 (saved first args : List Int) (margs : List Int) : Nat → Loc → Option Int
  | 0 => cs1 saved first saved.length
  | k + 1 => upd (cs2 saved first args margs k) ⟨false, margs.getD k 0⟩ (some (args.getD k 0))
def fs1 (saved : List Int) (f : Loc → Option Int) : Nat → Loc → Option Int
  | 0 => fun _ => none
  | k + 1 => upd (fs1 saved f k) ⟨false, saved.getD k 0⟩ (some ((f ⟨false, saved.getD k 0⟩).getD 0))
def startR (m : Machine) (t : Target) (args mem answers first : List Int) : RunS :=
  { cells := cs2 m.saved first args m.args args.length, block := 0, ins := 0, fin := 0, value := 0, m := m, t := t, first := fs1 m.saved (cs2 m.saved first args m.args args.length) m.saved.length, mem := mem, answers := answers, calls := [], steps := 0 }
def errR (m : Machine) (t : Target) (args mem : List Int) : Int := if rightT m t ≠ 0 then rightT m t else if args.length > m.args.length ∨ mem.length > 64 then 2 else 0
def RetBeg (m : Machine) (t : Target) (args mem answers first : List Int) (w : World) (e : Ending) (w' : World) : Prop :=
  if errR m t args mem = 0 then ∃ X q, e = .returned (.tuple #[.pointer (some ⟨X, 0, none⟩), .int .i64 0]) ∧ RunAt w' w.heap.size X (3 * m.saved.length + args.length) q (startR m t args mem answers first) ∧ ∃ u : Ext, w' = w.ext u
  else e = .returned (.tuple #[.pointer none, .int .i64 (errR m t args mem)]) ∧ ∃ u : Ext, w' = w.ext u
/-- a slice made by one operation -/
def OwnIv {α : Type} [Rep α] (n : Nat) (T : TypeId) (S : Nat → Prop) (xs : List α) : Nat → Nat → Post := fun lo hi v w => ∃ A c, v = .slice A n c ∧ OwnL w lo T S (.slice A n c) xs ∧ ∀ g, (Value.slice A n c).ownBlock = some g → g < hi
theorem OwnIv.stable_ {α : Type} [Rep α] {F : World → Prop} {n : Nat} {T : TypeId} {S : Nat → Prop} {xs : List α} {mem : Bool} (hm : mem = true) (lo hi : Nat) : stable F mem (OwnIv n T S xs lo hi) :=
  stable_mem hm fun _ _ u ⟨A, c, hv, h, h'⟩ => ⟨A, c, hv, h.ext u, h'⟩
/-- a map made by one operation -/
def MapI : Nat → Nat → Post := fun lo hi v w => ∃ g, v = .map (some g) ∧ lo ≤ g ∧ g < hi ∧ CMap w g 0 (fun _ => none)
theorem MapI.stable_ {F : World → Prop} {mem : Bool} (hm : mem = true) (lo hi : Nat) : stable F mem (MapI lo hi) :=
  stable_mem hm fun _ _ u ⟨g, hv, h1, h2, h⟩ => ⟨g, hv, h1, h2, h.ext u⟩
theorem MapI.mk_ {w : World} {g lo hi : Nat} (hg : g = w.heap.size) (hlo : lo ≤ w.heap.size) (hhi : w.heap.size < hi) : MapI lo hi (.map (some g)) (w.alloc (.map #[] 0)) := by
  subst hg; exact ⟨_, rfl, hlo, hhi, MapP.made w⟩
/-- a target made by one operation -/
def TgtI (Z0 n : Nat) (t : Target) : Nat → Nat → Post := fun lo hi v w => ∃ A c, v = .agg #[.int .i64 t.frame, .slice A n c] ∧ Sl w (fun b => b < Z0 ∨ (lo ≤ b ∧ b < hi)) A n c t.blocks
theorem TgtI.stable_ {F : World → Prop} {Z0 n : Nat} {t : Target} {mem : Bool} (hm : mem = true) (lo hi : Nat) : stable F mem (TgtI Z0 n t lo hi) :=
  stable_mem hm fun _ _ u ⟨A, c, hv, h⟩ => ⟨A, c, hv, h.ext u⟩
set_option maxHeartbeats 4000000 in
set_option maxRecDepth 100000 in
theorem begin9_any (w : World) (S1 S2 S3 S4 S5 S6 S7 : Nat → Prop) (m : Machine) (A1 A2 : Option Addr) (n1 c1 n2 c2 : Nat) (h1 : Sl w S1 A1 n1 c1 m.args) (h2 : Sl w S2 A2 n2 c2 m.saved) (hi : InI m.ret) (t : Target) (A : Option Addr) (n c : Nat) (h : Sl w S3 A n c t.blocks)
    (A3 A4 A5 A6 : Option Addr) (n3 c3 n4 c4 n5 c5 n6 c6 : Nat) (args mem answers first : List Int) (h3 : Sl w S4 A3 n3 c3 args) (h4 : Sl w S5 A4 n4 c4 mem) (h5 : Sl w S6 A5 n5 c5 answers) (h6 : Sl w S7 A6 n6 c6 first)
    (hm1 : n1 ≤ 1048576) (hm2 : n2 ≤ 1048576) (hm : n ≤ 1048576) (hms : ∀ b ∈ t.blocks, b.ins.length ≤ 1048576) (hm4 : n4 ≤ 1048576) (hm5 : n5 ≤ 1048576) :
    Calls Try.prog 16 #[.agg #[.int .i64 m.regs, .slice A1 n1 c1, .int .i64 m.ret, .slice A2 n2 c2], .agg #[.int .i64 t.frame, .slice A n c], .slice A3 n3 c3, .slice A4 n4 c4, .slice A5 n5 c5, .slice A6 n6 c6] w (RetBeg m t args mem answers first w) := by
  have HI := hide hi; have HMS := hide hms
  have hn3 := h3.nle; have hn4 := h4.nle; have hn6 := h6.nle; have hn1 := h1.nle
  have H1 := hide h1; have H2 := hide h2; have HT := hide h; have H3 := hide h3; have H4 := hide h4; have H5 := hide h5; have H6 := hide h6
  obtain ⟨E, hE⟩ : ∃ E, rightT m t = E := ⟨_, rfl⟩
  have HE := hide hE
  have HRT := hide fun (W : World) (g1 : Sl W S1 A1 n1 c1 m.args) (g2 : Sl W S2 A2 n2 c2 m.saved) (g3 : Sl W S3 A n c t.blocks) => (show Calls Try.prog 39 #[.agg #[.int .i64 m.regs, .slice A1 n1 c1, .int .i64 m.ret, .slice A2 n2 c2], .agg #[.int .i64 t.frame, .slice A n c]] W (RetX (.int .i64 E) W) from hE ▸ right_any W S3 S1 S2 m A1 A2 n1 c1 n2 c2 g1 g2 hi t A n c g3)
  clear hi hms h1 h2 h h3 h4 h5 h6 hE
  by_cases hE0 : E = 0
  · subst hE0
    by_cases hl : n1 < n3
    · have hl' : ¬ n3 ≤ n1 := by omega
      have hER : errR m t args mem = 2 := by
        unfold errR; rw [HE.out, if_neg (fun h => h rfl), if_pos (.inl (by rw [H3.out.len, H1.out.len]; exact hl))]
      have HER := hide hER
      clear hER
      go_enter Try.func16, Try.ntmps16
      go_wp2_with (go_at_call 39; refine (HRT.out _ (by repeat (first | assumption | exact Hd.out (by assumption) | apply Sl.alloc | apply Sl.ext | apply Sl.drew | apply Sl.drewN)) (by repeat (first | assumption | exact Hd.out (by assumption) | apply Sl.alloc | apply Sl.ext | apply Sl.drew | apply Sl.drewN)) (by repeat (first | assumption | exact Hd.out (by assumption) | apply Sl.alloc | apply Sl.ext | apply Sl.drew | apply Sl.drewN))).mono ?_; rintro e _ ⟨rfl, ux, rfl⟩)
      go_ret2
      unfold RetBeg
      rw [HER.out, if_neg (by decide)]
      exact ⟨rfl, Below.to_ext (by repeat (first | exact Below.refl _ _ | assumption | refine Below.alloc ?_ (by simp [size_ext]; try omega) _ | refine Below.ext ?_ (by simp [size_ext]; try omega) _ | refine Below.drew ?_ | refine Below.setCell ?_ (by simp [size_ext]; try omega) _))⟩
    by_cases hl4 : 64 < n4
    · have hl4' : (64 : Int) < n4 := by omega
      have hER : errR m t args mem = 2 := by
        unfold errR; rw [HE.out, if_neg (fun h => h rfl), if_pos (.inr (by rw [H4.out.len]; exact hl4))]
      have HER := hide hER
      clear hER
      go_enter Try.func16, Try.ntmps16
      go_wp2_with (go_at_call 39; refine (HRT.out _ (by repeat (first | assumption | exact Hd.out (by assumption) | apply Sl.alloc | apply Sl.ext | apply Sl.drew | apply Sl.drewN)) (by repeat (first | assumption | exact Hd.out (by assumption) | apply Sl.alloc | apply Sl.ext | apply Sl.drew | apply Sl.drewN)) (by repeat (first | assumption | exact Hd.out (by assumption) | apply Sl.alloc | apply Sl.ext | apply Sl.drew | apply Sl.drewN))).mono ?_; rintro e _ ⟨rfl, ux, rfl⟩)
      go_ret2
      unfold RetBeg
      rw [HER.out, if_neg (by decide)]
      exact ⟨rfl, Below.to_ext (by repeat (first | exact Below.refl _ _ | assumption | refine Below.alloc ?_ (by simp [size_ext]; try omega) _ | refine Below.ext ?_ (by simp [size_ext]; try omega) _ | refine Below.drew ?_ | refine Below.setCell ?_ (by simp [size_ext]; try omega) _))⟩
    have HER := hide (show errR m t args mem = 0 by unfold errR; rw [HE.out, if_neg (fun h => h rfl), if_neg (by rw [H3.out.len, H1.out.len, H4.out.len]; omega)])
    have hl4' : ¬ (64 : Int) < n4 := by omega
    go_enter Try.func16, Try.ntmps16
    go_wp2_with (go_at_call 39; refine (HRT.out _ (by repeat (first | assumption | exact Hd.out (by assumption) | apply Sl.alloc | apply Sl.ext | apply Sl.drew | apply Sl.drewN)) (by repeat (first | assumption | exact Hd.out (by assumption) | apply Sl.alloc | apply Sl.ext | apply Sl.drew | apply Sl.drewN)) (by repeat (first | assumption | exact Hd.out (by assumption) | apply Sl.alloc | apply Sl.ext | apply Sl.drew | apply Sl.drewN))).mono ?_; rintro e _ ⟨rfl, ux, rfl⟩)
    obtain ⟨V, hV⟩ : ∃ V, V = ((w.alloc (.cells #[.int .i64 m.regs, .slice A1 n1 c1, .int .i64 m.ret, .slice A2 n2 c2] 24)).alloc (.cells #[.int .i64 t.frame, .slice A n c] 27)).ext ux := ⟨_, rfl⟩
    have HFV := hide (show Below w.heap.size w V by rw [hV]; exact (by repeat (first | exact Below.refl _ _ | assumption | refine Below.alloc ?_ (by simp [size_ext]; try omega) _ | refine Below.ext ?_ (by simp [size_ext]; try omega) _ | refine Below.drew ?_ | refine Below.setCell ?_ (by simp [size_ext]; try omega) _)))
    have hMB := hide (show V.heap[w.heap.size]? = some (.cells #[.int .i64 m.regs, .slice A1 n1 c1, .int .i64 m.ret, .slice A2 n2 c2] 24 (0, 0)) by
      rw [hV, ext_block _ _ _ (by simp; omega), Below.heap_alloc _ _ _ (by simp), heap_alloc_new])
    have hTB := hide (show V.heap[w.heap.size + 1]? = some (.cells #[.int .i64 t.frame, .slice A n c] 27 (0, 0)) by
      have := heap_alloc_new (w.alloc (.cells #[.int .i64 m.regs, .slice A1 n1 c1, .int .i64 m.ret, .slice A2 n2 c2] 24)) (.cells #[.int .i64 t.frame, .slice A n c] 27)
      rw [World.size_alloc] at this
      rw [hV, ext_block _ _ _ (by simp)]; exact this)
    rw [← hV]
    clear hV
    have hTl : w.heap.size + 1 < V.heap.size := (Array.getElem?_eq_some_iff.1 hTB.out).1
    have hMl : w.heap.size < V.heap.size := by omega
    have mb1 : V.cell? ⟨w.heap.size, 1, none⟩ = some (.slice A1 n1 c1) := cell_of_row V _ _ _ _ (0, 0) hMB.out
    have mb3 : V.cell? ⟨w.heap.size, 3, none⟩ = some (.slice A2 n2 c2) := cell_of_row V _ _ _ _ (0, 0) hMB.out
    have mf : ∀ j, V.frozen? ⟨w.heap.size, j, none⟩ = false := fun j => by simp [World.frozen?, hMB.out]
    have H1V := hide (H1.out.belowAll HFV.out); have H2V := hide (H2.out.belowAll HFV.out)
    refine wp_region_flowI [2, 5] 7 (by kernel_rfl) rfl (by kernel_rfl) (by kernel_rfl) ?_
    simp only [List.take_succ_cons, List.take_zero, List.drop_succ_cons, List.drop_zero]
    repeat (refine flowI_known (by kernel_rfl) (fun K hK => ?_); go_simp; (first | (refine hK _ ?_; clear hK K) | (apply Exists.intro; refine ⟨fun _ => ?_, hK _ ?_⟩; (fail); clear hK K)))
    refine flowI_keep0 (OwnIv n1 3 (fun _ => False) m.args) (by kernel_rfl) (OwnIv.stable_ rfl) ?_ ?_
    · intro u
      go_simp
      refine (clone_ints _ _ A1 n1 c1 m.args (H1V.out.ext u) hm1).mono ?_
      rintro e _ ⟨A', c', rfl, hs, x', rfl⟩
      rw [H1V.out.len] at hs ⊢
      exact ⟨_, rfl, ⟨A', c', rfl, hs.ints.base_le (by rw [size_ext]; omega), fun g hg => (hs.below_ g hg).2⟩, onW_ext ⟨_, rfl⟩ ⟨x', rfl⟩⟩
    repeat (refine flowI_known (by kernel_rfl) (fun K hK => ?_); go_simp; (first | (refine hK _ ?_; clear hK K) | (apply Exists.intro; refine ⟨fun _ => ?_, hK _ ?_⟩; (fail); clear hK K)))
    refine flowI_keep0 (OwnIv n2 3 (fun _ => False) m.saved) (by kernel_rfl) (OwnIv.stable_ rfl) ?_ ?_
    · intro u
      go_simp
      refine (clone_ints _ _ A2 n2 c2 m.saved (H2V.out.ext u) hm2).mono ?_
      rintro e _ ⟨A', c', rfl, hs, x', rfl⟩
      rw [H2V.out.len] at hs ⊢
      exact ⟨_, rfl, ⟨A', c', rfl, hs.ints.base_le (by rw [size_ext]; omega), fun g hg => (hs.below_ g hg).2⟩, onW_ext ⟨_, rfl⟩ ⟨x', rfl⟩⟩
    repeat (refine flowI_known (by kernel_rfl) (fun K hK => ?_); go_simp; (first | (refine hK _ ?_; clear hK K) | (apply Exists.intro; refine ⟨fun _ => ?_, hK _ ?_⟩; (fail); clear hK K)))
    refine flowI_done [true, true] rfl ?_
    intro γ u hap
    simp only [List.nil_append, List.cons_append, List.map_cons, List.map_nil, atG, endH_f, endH_t, endH_nil]
    rintro _ ⟨Ba, ca, rfl, hoa, hga⟩ _ ⟨Bs, cs, rfl, hos, hgs⟩
    obtain ⟨Y, hY⟩ : ∃ Y, Y = V.ext u := ⟨_, rfl⟩
    have HFY := hide (show Below w.heap.size w Y by rw [hY]; exact (by repeat (first | exact Below.refl _ _ | assumption | exact Hd.out (by assumption) | refine Below.alloc ?_ (by first | omega | (simp [size_ext]; try omega)) _ | refine Below.ext ?_ (by first | omega | (simp [size_ext]; try omega)) _ | refine Below.drew ?_ | refine Below.setCell ?_ (by first | omega | (simp [size_ext]; try omega)) _)))
    have hMY := hide (show Y.heap[w.heap.size]? = some (.cells #[.int .i64 m.regs, .slice A1 n1 c1, .int .i64 m.ret, .slice A2 n2 c2] 24 (0, 0)) by rw [hY, ext_block _ _ _ hMl]; exact hMB.out)
    have hTY := hide (show Y.heap[w.heap.size + 1]? = some (.cells #[.int .i64 t.frame, .slice A n c] 27 (0, 0)) by rw [hY, ext_block _ _ _ hTl]; exact hTB.out)
    have hVY : V.heap.size ≤ Y.heap.size := by rw [hY]; simp [size_ext]
    have ha1 := hap.1 ⟨2, some 41, OwnIv n1 3 (fun _ => False) m.args⟩ (by simp)
    have ha2 := hap.1 ⟨5, some 44, OwnIv n2 3 (fun _ => False) m.saved⟩ (by simp)
    simp only at ha1 ha2
    have HA1 := hide (hoa.base_le ha1.1); have HA2 := hide (hos.base_le ha2.1)
    rw [← hY] at HA1 HA2 ⊢
    have y1 : Y.cell? ⟨w.heap.size, 1, none⟩ = some (.slice A1 n1 c1) := cell_of_row Y _ _ _ _ (0, 0) hMY.out
    have y3 : Y.cell? ⟨w.heap.size, 3, none⟩ = some (.slice A2 n2 c2) := cell_of_row Y _ _ _ _ (0, 0) hMY.out
    have yf : ∀ j, Y.frozen? ⟨w.heap.size, j, none⟩ = false := fun j => by simp [World.frozen?, hMY.out]
    clear hY hap hoa hos hga hgs ha1 ha2 mb1 mb3 mf
    go_simp
    go_wp2_with fail
    obtain ⟨Z, hZ⟩ : ∃ Z, Z = (Y.setCell ⟨w.heap.size, 1, none⟩ (.slice Ba n1 ca)).setCell ⟨w.heap.size, 3, none⟩ (.slice Bs n2 cs) := ⟨_, rfl⟩
    have hMZ := hide (show Z.heap[w.heap.size]? = some (.cells #[.int .i64 m.regs, .slice Ba n1 ca, .int .i64 m.ret, .slice Bs n2 cs] 24 (0, 0)) by rw [hZ]; exact row_setCell (row_setCell hMY.out 1 _) 3 _)
    have hTZ := hide (show Z.heap[w.heap.size + 1]? = some (.cells #[.int .i64 t.frame, .slice A n c] 27 (0, 0)) by
      rw [hZ, Below.heap_setCell _ _ _ _ (fun e => by have h0 : w.heap.size + 1 = w.heap.size := e; omega), Below.heap_setCell _ _ _ _ (fun e => by have h0 : w.heap.size + 1 = w.heap.size := e; omega)]; exact hTY.out)
    have hw0 : w.heap.size ≤ w.heap.size := Nat.le_refl _
    have HFZ := hide (show Below w.heap.size w Z by rw [hZ]; exact (HFY.out.setCell hw0 _).setCell hw0 _)
    have HSZ := hide (show Z.heap.size = Y.heap.size by rw [hZ]; simp)
    have hnb : ∀ (v : Value) (xs : List Int), OwnL Y V.heap.size 3 (fun _ => False) v xs → OwnL Z V.heap.size 3 (fun _ => False) v xs := fun v xs h => by
      have hne : ∀ j : Nat, v.ownBlock ≠ some ((⟨w.heap.size, j, none⟩ : Addr).block) := fun j e => by have h0 : V.heap.size ≤ w.heap.size := (h.below_ _ e).1; omega
      rw [hZ]; exact (h.setCell (fun h => h) (hne 1) _).setCell (fun h => h) (hne 3) _
    have HA1Z := hide (hnb _ _ HA1.out); have HA2Z := hide (hnb _ _ HA2.out)
    rw [← hZ]
    clear hZ hnb y1 y3 yf HA1 HA2 hw0
    have hTl2 : w.heap.size + 1 < Z.heap.size := by have := HSZ.out; omega
    have hMl2 : w.heap.size < Z.heap.size := by omega
    have z0 : Z.cell? ⟨w.heap.size, 0, none⟩ = some (.int .i64 m.regs) := cell_of_row Z _ _ _ _ (0, 0) hMZ.out
    have z1 : Z.cell? ⟨w.heap.size, 1, none⟩ = some (.slice Ba n1 ca) := cell_of_row Z _ _ _ _ (0, 0) hMZ.out
    have z2 : Z.cell? ⟨w.heap.size, 2, none⟩ = some (.int .i64 m.ret) := cell_of_row Z _ _ _ _ (0, 0) hMZ.out
    have z3 : Z.cell? ⟨w.heap.size, 3, none⟩ = some (.slice Bs n2 cs) := cell_of_row Z _ _ _ _ (0, 0) hMZ.out
    have t0 : Z.cell? ⟨w.heap.size + 1, 0, none⟩ = some (.int .i64 t.frame) := cell_of_row Z _ _ _ _ (0, 0) hTZ.out
    have t1 : Z.cell? ⟨w.heap.size + 1, 1, none⟩ = some (.slice A n c) := cell_of_row Z _ _ _ _ (0, 0) hTZ.out
    have HTZ := hide (HT.out.belowAll HFZ.out); have H4Z := hide (H4.out.belowAll HFZ.out); have H5Z := hide (H5.out.belowAll HFZ.out)
    have hmm := @run_makeMap Try.prog
    refine wp_region_flowI [0, 3, 4, 6, 8] 9 (by kernel_rfl) rfl (by kernel_rfl) (by kernel_rfl) ?_
    simp only [List.take_succ_cons, List.take_zero, List.drop_succ_cons, List.drop_zero]
    refine flowI_keep0 MapI (by kernel_rfl) (MapI.stable_ rfl) ?_ ?_
    · intro v
      go_simp
      exact ⟨MapI.mk_ (by rw [size_ext]) (by rw [size_ext]; exact Nat.le_refl _) (by rw [size_ext]; omega), onW_alloc rfl ⟨_, rfl⟩⟩
    repeat (refine flowI_known (by kernel_rfl) (fun K hK => ?_); go_simp; (first | (refine hK _ ?_; clear hK K) | (apply Exists.intro; refine ⟨fun _ => ?_, hK _ ?_⟩; (fail); clear hK K)))
    refine flowI_keep0 (TgtI Z.heap.size n t) (by kernel_rfl) (TgtI.stable_ rfl) ?_ ?_
    · intro v
      go_simp
      refine (copied_any _ (fun b => b < Z.heap.size) t A n c ((HTZ.out.more (S' := fun b => b < Z.heap.size) fun b hb _ => hb).ext v) hm HMS.out).mono ?_
      rintro e _ ⟨A', c', rfl, hs, x', rfl⟩
      rw [HT.out.len] at hs ⊢
      refine ⟨_, rfl, ⟨A', c', rfl, hs.more fun b hb h => ?_⟩, onW_ext ⟨_, rfl⟩ ⟨x', rfl⟩⟩
      rcases h with h | h
      · exact .inl h.1
      · exact .inr ⟨by rw [size_ext] at h; exact h, hb⟩
    refine flowI_keep0 MapI (by kernel_rfl) (MapI.stable_ rfl) ?_ ?_
    · intro v
      go_simp
      exact ⟨MapI.mk_ (by rw [size_ext]) (by rw [size_ext]; exact Nat.le_refl _) (by rw [size_ext]; omega), onW_alloc rfl ⟨_, rfl⟩⟩
    repeat (refine flowI_known (by kernel_rfl) (fun K hK => ?_); go_simp; (first | (refine hK _ ?_; clear hK K) | (apply Exists.intro; refine ⟨fun _ => ?_, hK _ ?_⟩; (fail); clear hK K)))
    refine flowI_keep0 (OwnIv n4 3 (fun _ => False) mem) (by kernel_rfl) (OwnIv.stable_ rfl) ?_ ?_
    · intro u
      go_simp
      refine (clone_ints _ _ A4 n4 c4 mem (H4Z.out.ext u) hm4).mono ?_
      rintro e _ ⟨A', c', rfl, hs, x', rfl⟩
      rw [H4Z.out.len] at hs ⊢
      exact ⟨_, rfl, ⟨A', c', rfl, hs.ints.base_le (by rw [size_ext]; omega), fun g hg => (hs.below_ g hg).2⟩, onW_ext ⟨_, rfl⟩ ⟨x', rfl⟩⟩
    repeat (refine flowI_known (by kernel_rfl) (fun K hK => ?_); go_simp; (first | (refine hK _ ?_; clear hK K) | (apply Exists.intro; refine ⟨fun _ => ?_, hK _ ?_⟩; (fail); clear hK K)))
    refine flowI_keep0 (OwnIv n5 3 (fun _ => False) answers) (by kernel_rfl) (OwnIv.stable_ rfl) ?_ ?_
    · intro u
      go_simp
      refine (clone_ints _ _ A5 n5 c5 answers (H5Z.out.ext u) hm5).mono ?_
      rintro e _ ⟨A', c', rfl, hs, x', rfl⟩
      rw [H5Z.out.len] at hs ⊢
      exact ⟨_, rfl, ⟨A', c', rfl, hs.ints.base_le (by rw [size_ext]; omega), fun g hg => (hs.below_ g hg).2⟩, onW_ext ⟨_, rfl⟩ ⟨x', rfl⟩⟩
    refine flowI_done [true, true, true, true, true] rfl ?_
    intro γ v hap
    simp only [List.nil_append, List.cons_append, List.map_cons, List.map_nil, atG, endH_f, endH_t, endH_nil]
    rintro _ ⟨bc, rfl, hb1, hb2, hbc⟩ _ ⟨At, ct, rfl, hst⟩ _ ⟨bf, rfl, hf1, hf2, hbf⟩ _ ⟨Am, cm, rfl, hom, hgm⟩ _ ⟨Aa, ca', rfl, hoan, hga⟩
    simp only [Nat.zero_add, Nat.reduceAdd] at hst hf1 hf2 hom hgm hoan hga
    have a0 := hap.1 ⟨0, some 47, MapI⟩ (by simp)
    have a3 := hap.1 ⟨3, some 50, TgtI Z.heap.size n t⟩ (by simp)
    have a4 := hap.1 ⟨4, some 51, MapI⟩ (by simp)
    have a6 := hap.1 ⟨6, some 53, OwnIv n4 3 (fun _ => False) mem⟩ (by simp)
    have a8 := hap.1 ⟨8, some 55, OwnIv n5 3 (fun _ => False) answers⟩ (by simp)
    have p03 := hap.2 ⟨0, some 47, MapI⟩ (by simp) ⟨3, some 50, TgtI Z.heap.size n t⟩ (by simp) (by simp)
    have p04 := hap.2 ⟨0, some 47, MapI⟩ (by simp) ⟨4, some 51, MapI⟩ (by simp) (by simp)
    have p06 := hap.2 ⟨0, some 47, MapI⟩ (by simp) ⟨6, some 53, OwnIv n4 3 (fun _ => False) mem⟩ (by simp) (by simp)
    have p08 := hap.2 ⟨0, some 47, MapI⟩ (by simp) ⟨8, some 55, OwnIv n5 3 (fun _ => False) answers⟩ (by simp) (by simp)
    have p43 := hap.2 ⟨4, some 51, MapI⟩ (by simp) ⟨3, some 50, TgtI Z.heap.size n t⟩ (by simp) (by simp)
    have p46 := hap.2 ⟨4, some 51, MapI⟩ (by simp) ⟨6, some 53, OwnIv n4 3 (fun _ => False) mem⟩ (by simp) (by simp)
    have p48 := hap.2 ⟨4, some 51, MapI⟩ (by simp) ⟨8, some 55, OwnIv n5 3 (fun _ => False) answers⟩ (by simp) (by simp)
    have p63 := hap.2 ⟨6, some 53, OwnIv n4 3 (fun _ => False) mem⟩ (by simp) ⟨3, some 50, TgtI Z.heap.size n t⟩ (by simp) (by simp)
    have p68 := hap.2 ⟨6, some 53, OwnIv n4 3 (fun _ => False) mem⟩ (by simp) ⟨8, some 55, OwnIv n5 3 (fun _ => False) answers⟩ (by simp) (by simp)
    simp only at a0 a3 a4 a6 a8 p03 p04 p06 p08 p43 p46 p48 p63 p68
    clear hap
    obtain ⟨U, hU⟩ : ∃ U, U = Z.ext v := ⟨_, rfl⟩
    have HFU := hide (show Below Z.heap.size Z U by rw [hU]; exact Below.of_ext _ _ (Nat.le_refl _))
    have hUs : U.heap.size = Z.heap.size + v.blocks.size := by rw [hU, size_ext]
    have HUs := hide hUs
    rw [← hU] at hbc hst hbf hom hoan a0 a3 a4 a6 a8 ⊢
    obtain ⟨q, hq⟩ : ∃ q : RunM, q = { bc := bc, bf := bf, A1 := Ba, n1 := n1, c1 := ca, A2 := Bs, n2 := n2, c2 := cs, A := At, n := n, c := ct, vm := .slice Am n4 cm, Aa := Aa, na := n5, ca := ca', vc := .slice none 0 0, So := fun _ => False, S := fun b => b < Z.heap.size ∨ ((γ 3).1 ≤ b ∧ b < (γ 3).2) ∨ ((γ 8).1 ≤ b ∧ b < (γ 8).2) } := ⟨_, rfl⟩
    obtain ⟨r0, hr0⟩ : ∃ r0 : RunS, r0 = { cells := fun _ => none, block := 0, ins := 0, fin := 0, value := 0, m := m, t := t, first := fun _ => none, mem := mem, answers := answers, calls := [], steps := 0 } := ⟨_, rfl⟩
    have HRUN := hide (show RunAt (U.alloc (.cells #[.map (some bc), .int .i64 0, .int .i64 0, .int .i64 0, .int .i64 0, .int .i64 m.regs, .slice Ba n1 ca, .int .i64 m.ret, .slice Bs n2 cs, .int .i64 t.frame, .slice At n ct, .map (some bf), .slice Am n4 cm, .slice Aa n5 ca', .slice none 0 0, .int .i64 0] 104)) w.heap.size U.heap.size 0 q r0 by
      have hal : ∀ b, b < U.heap.size → (U.alloc (.cells #[.map (some bc), .int .i64 0, .int .i64 0, .int .i64 0, .int .i64 0, .int .i64 m.regs, .slice Ba n1 ca, .int .i64 m.ret, .slice Bs n2 cs, .int .i64 t.frame, .slice At n ct, .map (some bf), .slice Am n4 cm, .slice Aa n5 ca', .slice none 0 0, .int .i64 0] 104)).heap[b]? = U.heap[b]? := fun b hb => Below.heap_alloc _ _ _ hb
      have hZA := (HA1Z.out.keep HFU.out.size (fun b hb _ => hb.elim) (fun g hg => HFU.out.block g (HA1Z.out.below_ g hg).2))
      have hZS := (HA2Z.out.keep HFU.out.size (fun b hb _ => hb.elim) (fun g hg => HFU.out.block g (HA2Z.out.below_ g hg).2))
      subst hq hr0
      refine ⟨by omega, heap_alloc_new _ _, hbc.alloc _, hbf.alloc _, ?_, ?_, ?_, ?_, ?_, OwnL.nil_ _ _ _ _, by show w.heap.size ≤ bc; omega, by show w.heap.size ≤ bf; omega, by show U.heap.size ≠ bc; omega, by show U.heap.size ≠ bf; omega, by show bc ≠ bf; omega, ?_, ?_, ?_, fun b hb => hb.elim⟩
      · refine (hZA.slo (S' := fun b => b < Z.heap.size) fun b _ h => ?_).more (fun b _ h => .inl h) |>.alloc _
        rcases h with h | h
        · exact h.elim
        · exact (HA1Z.out.below_ b h).2
      · refine (hZS.slo (S' := fun b => b < Z.heap.size) fun b _ h => ?_).more (fun b _ h => .inl h) |>.alloc _
        rcases h with h | h
        · exact h.elim
        · exact (HA2Z.out.below_ b h).2
      · refine (hst.more fun b _ h => ?_).alloc _
        rcases h with h | h
        · exact .inl h
        · exact .inr (.inl h)
      · exact (hom.base_le (by omega)).alloc _
      · refine (hoan.slo fun b _ h => ?_).alloc _
        rcases h with h | h
        · exact h.elim
        · exact .inr (.inr ⟨(hoan.below_ b h).1, hga b h⟩)
      · intro b hb
        have g1 := (hom.below_ b hb).1; have g2 := hgm b hb
        refine ⟨by show b ≠ U.heap.size; omega, by show b ≠ bc; omega, by show b ≠ bf; omega, by simp [Value.ownBlock]⟩
      · intro b hb; simp [Value.ownBlock] at hb
      · intro b hb
        refine ⟨?_, ?_⟩
        · rintro (e | e | e | e | e)
          · change b = U.heap.size at e; rcases hb with hb | hb | hb <;> omega
          · change b = bc at e; rcases hb with hb | hb | hb <;> omega
          · change b = bf at e; rcases hb with hb | hb | hb <;> omega
          · have g1 := (hom.below_ b e).1; have g2 := hgm b e; rcases hb with hb | hb | hb <;> omega
          · simp [Value.ownBlock] at e
        · simp; rcases hb with hb | hb | hb <;> omega)
    have hbcZ : Z.heap.size ≤ bc := by omega
    have hbfZ : Z.heap.size ≤ bf := by omega
    have hqb : q.bc = bc ∧ q.bf = bf := by rw [hq]; exact ⟨rfl, rfl⟩
    have HQ := hide (And.intro hq hqb); have HR0 := hide hr0
    have u1 : U.cell? ⟨w.heap.size, 1, none⟩ = some (.slice Ba n1 ca) := (HFU.out.cell (p := ⟨w.heap.size, 1, none⟩) hMl2).trans z1
    have u3 : U.cell? ⟨w.heap.size, 3, none⟩ = some (.slice Bs n2 cs) := (HFU.out.cell (p := ⟨w.heap.size, 3, none⟩) hMl2).trans z3
    have hMU : w.heap.size < U.heap.size := by have := HFU.out.size; omega
    have HM1 := hide z1; have HM3 := hide z3
    clear z0 z1 z2 z3 t0 t1
    clear hbc hst hbf hom hgm hoan hga a0 a3 a4 a6 a8 p03 p04 p06 p08 p43 p46 p48 p63 p68 hb1 hb2 hf1 hf2 hq hr0 hU hUs hqb
    go_simp
    go_wp2_with fail
    obtain ⟨T0, hT0⟩ : ∃ T0, T0 = U.alloc (.cells #[.map (some bc), .int .i64 0, .int .i64 0, .int .i64 0, .int .i64 0, .int .i64 m.regs, .slice Ba n1 ca, .int .i64 m.ret, .slice Bs n2 cs, .int .i64 t.frame, .slice At n ct, .map (some bf), .slice Am n4 cm, .slice Aa n5 ca', .slice none 0 0, .int .i64 0] 104) := ⟨_, rfl⟩
    have HFT := hide (show Below Z.heap.size Z T0 by rw [hT0]; exact HFU.out.alloc (HFU.out.size) _)
    rw [← hT0] at HRUN ⊢
    clear hT0 u1 u3
    obtain ⟨X, hX⟩ : ∃ X, X = U.heap.size := ⟨_, rfl⟩
    rw [← hX] at HRUN ⊢
    have HXU := hide (show Z.heap.size ≤ X by rw [hX]; exact HFU.out.size)
    clear hX
    have HSV := hide ((HA2Z.out.slo (S' := fun b => b < Z.heap.size) fun b _ h => by rcases h with h | h; exact h.elim; exact (HA2Z.out.below_ b h).2))
    have HSA := hide ((HA1Z.out.slo (S' := fun b => b < Z.heap.size) fun b _ h => by rcases h with h | h; exact h.elim; exact (HA1Z.out.below_ b h).2))
    have H3Z := hide ((H3.out.belowAll HFZ.out).more (S' := fun b => b < Z.heap.size) fun b h _ => h)
    have H6Z := hide ((H6.out.belowAll HFZ.out).more (S' := fun b => b < Z.heap.size) fun b h _ => h)
    have HL2 := hide HSV.out.len; have HL1 := hide HSA.out.len; have HL3 := hide H3Z.out.len; have HL6 := hide H6Z.out.len
    have hEx := hide (show q.bc = bc ∧ q.bf = bf from HQ.out.2)
    go_loopw [61] (fun j wr => ∃ k : Nat, k ≤ n2 ∧ j = .int .i64 k ∧ RunAt wr w.heap.size X (2 * k) q { r0 with cells := cs1 m.saved first k } ∧ Below Z.heap.size Z wr) (fun j _ => n2 - (intOf j).toNat)
    case atStart => exact ⟨0, Nat.zero_le _, rfl, by have := HRUN.out; rw [HR0.out] at this ⊢; exact this, HFT.out⟩
    case round =>
      obtain ⟨k, hk, rfl, hrun, hbel⟩ := hrel
      have HRk := hide hrun; have HBk := hide hbel
      clear hrun hbel
      have hgB : ∀ {wa wb : World} {S : Prop}, True := fun {_ _ _} => trivial
      clear hgB
      by_cases hlt : k < n2
      · have hsv := HSV.out.below HBk.out (fun b h => h)
        obtain ⟨b, off, x, rfl, hb, hx, hxi, hcx⟩ := at_int hsv hlt
        have HX := hide (show m.saved.getD k 0 = x by simp [List.getD_eq_getElem?_getD, hx]); have HXI := hide hxi
        clear hsv hx hxi
        have r0' := HRk.out.k0
        have hXk := HRk.out.lt
        by_cases hkf : k < n6
        · have hkf' : (k : Int) < n6 := by omega
          go_wp2_with fail
          refine wp_region_last_ext [] [] 6 (by kernel_rfl) rfl rfl rfl (by kernel_rfl) (by kernel_rfl) ?_
          simp only [List.take_succ_cons, List.take_zero]
          repeat (refine flow_known (by kernel_rfl) (fun K hK => ?_); go_simp; (first | (refine hK _ ?_; clear hK K) | (apply Exists.intro; refine ⟨fun _ => ?_, hK _ ?_⟩; ((go_at_call 42; exact reg9_any _ _)); clear hK K)))
          refine flow_done [] (by kernel_rfl) ?_
          intro u1
          simp only [List.nil_append, List.cons_append, endH_f, endH_t, endH_nil]
          go_simp
          refine wpList_put_map (K := locK) (E := cellE) rfl (.tmp 69) (.tmp 71) (.const (.int .i64 0)) 97 rfl Try.underlying97 rfl (HRk.out.ext u1).cells (by unfold maxLen; omega) ⟨false, x⟩ rfl HXI.out 0 rfl (by show InI 0; unfold InI; omega) ?_
          intro w9 hm9 hg9
          have HR9 := hide ((HRk.out.ext u1).put_cells hg9 hm9 (Nat.le_succ _))
          have HB9 := hide ((HBk.out.ext (by have := HBk.out.size; omega) u1).grown hg9 (by rw [size_ext]; have := HBk.out.size; omega) (fun g e => by injection e with e; subst e; rw [hEx.out.1]; exact hbcZ))
          clear hm9 hg9
          obtain ⟨b6, off6, y, rfl, hb6, hy, hyi, hcy⟩ := at_int (H6Z.out.below HB9.out (fun b h => h)) hkf
          have HY := hide (show first.getD k 0 = y by simp [List.getD_eq_getElem?_getD, hy]); have HYI := hide hyi
          clear hy hyi
          have r9 := HR9.out.k0
          have hX9 := HR9.out.lt
          go_simp
          go_wp2_with fail
          refine wp_region_last_ext [] [] 10 (by kernel_rfl) rfl rfl rfl (by kernel_rfl) (by kernel_rfl) ?_
          simp only [List.take_succ_cons, List.take_zero]
          repeat (refine flow_known (by kernel_rfl) (fun K hK => ?_); go_simp; (first | (refine hK _ ?_; clear hK K) | (apply Exists.intro; refine ⟨fun _ => ?_, hK _ ?_⟩; ((go_at_call 42; exact reg9_any _ _)); clear hK K)))
          refine flow_done [] (by kernel_rfl) ?_
          intro u2
          simp only [List.nil_append, List.cons_append, endH_f, endH_t, endH_nil]
          go_simp
          refine wpList_put_map (K := locK) (E := cellE) rfl (.tmp 79) (.tmp 81) (.tmp 85) 97 rfl Try.underlying97 rfl (HR9.out.ext u2).cells (by unfold maxLen; omega) ⟨false, x⟩ rfl HXI.out y rfl HYI.out ?_
          intro w10 hm10 hg10
          have HR10 := hide ((HR9.out.ext u2).put_cells hg10 hm10 (Nat.le_succ _))
          have HB10 := hide ((HB9.out.ext (by have := HB9.out.size; omega) u2).grown hg10 (by rw [size_ext]; have := HB9.out.size; omega) (fun g e => by injection e with e; subst e; rw [hEx.out.1]; exact hbcZ))
          clear hm10 hg10
          go_simp
          go_wp2_with fail
          go_roundw
          case rel =>
            refine ⟨k + 1, by omega, by go_num, ?_, HB10.out⟩
            have := HR10.out
            rw [upd_upd] at this
            rw [show cs1 m.saved first (k + 1) = upd (cs1 m.saved first k) ⟨false, x⟩ (some y) by simp only [cs1, HX.out, HY.out]]
            exact this
          case measure => simp [intOf]; omega
        · have hkf' : ¬ (k : Int) < n6 := by omega
          have HY := hide (show first.getD k 0 = 0 by simp [List.getD_eq_getElem?_getD, List.getElem?_eq_none (show first.length ≤ k by rw [HL6.out]; omega)])
          go_wp2_with fail
          refine wp_region_last_ext [] [] 6 (by kernel_rfl) rfl rfl rfl (by kernel_rfl) (by kernel_rfl) ?_
          simp only [List.take_succ_cons, List.take_zero]
          repeat (refine flow_known (by kernel_rfl) (fun K hK => ?_); go_simp; (first | (refine hK _ ?_; clear hK K) | (apply Exists.intro; refine ⟨fun _ => ?_, hK _ ?_⟩; ((go_at_call 42; exact reg9_any _ _)); clear hK K)))
          refine flow_done [] (by kernel_rfl) ?_
          intro u1
          simp only [List.nil_append, List.cons_append, endH_f, endH_t, endH_nil]
          go_simp
          refine wpList_put_map (K := locK) (E := cellE) rfl (.tmp 69) (.tmp 71) (.const (.int .i64 0)) 97 rfl Try.underlying97 rfl (HRk.out.ext u1).cells (by unfold maxLen; omega) ⟨false, x⟩ rfl HXI.out 0 rfl (by show InI 0; unfold InI; omega) ?_
          intro w9 hm9 hg9
          have HR9 := hide ((HRk.out.ext u1).put_cells hg9 hm9 (Nat.le_succ _))
          have HB9 := hide ((HBk.out.ext (by have := HBk.out.size; omega) u1).grown hg9 (by rw [size_ext]; have := HBk.out.size; omega) (fun g e => by injection e with e; subst e; rw [hEx.out.1]; exact hbcZ))
          clear hm9 hg9
          go_simp
          go_wp2_with fail
          go_roundw
          case rel =>
            refine ⟨k + 1, by omega, by go_num, ?_, HB9.out⟩
            rw [show cs1 m.saved first (k + 1) = upd (cs1 m.saved first k) ⟨false, x⟩ (some 0) by simp only [cs1, HX.out, HY.out]]
            exact HR9.out.more (by omega)
          case measure => simp [intOf]; omega
      · obtain rfl : k = n2 := by omega
        have HC1 := hide (show RunAt wr w.heap.size X (2 * k) q { r0 with cells := cs2 m.saved first args m.args 0 } by
          have := HRk.out; rw [← HL2.out] at this ⊢; exact this)
        clear HRk
        go_wp2_with fail
        go_loopw [89] (fun j wr => ∃ l : Nat, l ≤ n3 ∧ j = .int .i64 l ∧ RunAt wr w.heap.size X (2 * k + l) q { r0 with cells := cs2 m.saved first args m.args l } ∧ Below Z.heap.size Z wr) (fun j _ => n3 - (intOf j).toNat)
        case atStart => exact ⟨0, Nat.zero_le _, rfl, HC1.out, HBk.out⟩
        case round =>
          rename_i wr0
          obtain ⟨l, hll, rfl, hrun, hbel⟩ := hrel
          have HRl := hide hrun; have HBl := hide hbel
          clear hrun hbel
          have hMl3 : w.heap.size < wr.heap.size := by have := HBl.out.size; omega
          by_cases hlt3 : l < n3
          · obtain ⟨b3, off3, x, rfl, hb3, hx, hxi, hcx⟩ := at_int (H3Z.out.below HBl.out (fun b h => h)) hlt3
            have hln1 : l < n1 := by omega
            obtain ⟨b1, off1, y, rfl, hb1, hy, hyi, hcy⟩ := at_int (HSA.out.below HBl.out (fun b h => h)) hln1
            have HX := hide (show args.getD l 0 = x by simp [List.getD_eq_getElem?_getD, hx]); have HXI := hide hxi
            have HY := hide (show m.args.getD l 0 = y by simp [List.getD_eq_getElem?_getD, hy]); have HYI := hide hyi
            clear hx hxi hy hyi
            have hMk : wr.cell? ⟨w.heap.size, 1, none⟩ = some (.slice (some ⟨b1, off1, none⟩) n1 ca) := (HBl.out.cell (p := ⟨w.heap.size, 1, none⟩) hMl2).trans HM1.out
            have r0' := HRl.out.k0
            have hXk := HRl.out.lt
            have hln1' : (l : Int) < n1 := by omega
            go_wp2_with fail
            refine wp_region_last_ext [] [] 11 (by kernel_rfl) rfl rfl rfl (by kernel_rfl) (by kernel_rfl) ?_
            simp only [List.take_succ_cons, List.take_zero]
            repeat (refine flow_known (by kernel_rfl) (fun K hK => ?_); go_simp; (first | (refine hK _ ?_; clear hK K) | (apply Exists.intro; refine ⟨fun _ => ?_, hK _ ?_⟩; ((go_at_call 42; exact reg9_any _ _)); clear hK K)))
            refine flow_done [] (by kernel_rfl) ?_
            intro u1
            simp only [List.nil_append, List.cons_append, endH_f, endH_t, endH_nil]
            go_simp
            refine wpList_put_map (K := locK) (E := cellE) rfl (.tmp 97) (.tmp 103) (.tmp 104) 97 rfl Try.underlying97 rfl (HRl.out.ext u1).cells (by unfold maxLen; omega) ⟨false, y⟩ rfl HYI.out x rfl HXI.out ?_
            intro w9 hm9 hg9
            have HR9 := hide ((HRl.out.ext u1).put_cells hg9 hm9 (Nat.le_succ _))
            have HB9 := hide ((HBl.out.ext (by have := HBl.out.size; omega) u1).grown hg9 (by rw [size_ext]; have := HBl.out.size; omega) (fun g e => by injection e with e; subst e; rw [hEx.out.1]; exact hbcZ))
            clear hm9 hg9
            go_simp
            go_wp2_with fail
            go_roundw
            case rel =>
              refine ⟨l + 1, by omega, by go_num, ?_, HB9.out⟩
              rw [show cs2 m.saved first args m.args (l + 1) = upd (cs2 m.saved first args m.args l) ⟨false, y⟩ (some x) by simp only [cs2, HX.out, HY.out]]
              exact HR9.out
            case measure => simp [intOf]; omega
          · obtain rfl : l = n3 := by omega
            have HC2 := hide (show RunAt wr w.heap.size X (2 * k + l) q { r0 with cells := cs2 m.saved first args m.args args.length, first := fs1 m.saved (cs2 m.saved first args m.args args.length) 0 } by
              have := HRl.out; rw [← HL3.out] at this ⊢; rw [HR0.out] at this ⊢; exact this)
            have hMk3 : wr.cell? ⟨w.heap.size, 3, none⟩ = some (.slice Bs k cs) := (HBl.out.cell (p := ⟨w.heap.size, 3, none⟩) hMl2).trans HM3.out
            clear HRl
            go_wp2_with fail
            obtain ⟨C2, hC2⟩ : ∃ C2, C2 = cs2 m.saved first args m.args args.length := ⟨_, rfl⟩
            rw [← hC2] at HC2
            have HC2e := hide hC2
            clear hC2
            go_loopw [109] (fun j wr => ∃ p : Nat, p ≤ k ∧ j = .int .i64 p ∧ RunAt wr w.heap.size X (2 * k + l + p) q { r0 with cells := C2, first := fs1 m.saved C2 p } ∧ Below Z.heap.size Z wr) (fun j _ => k - (intOf j).toNat)
            case atStart => exact ⟨0, Nat.zero_le _, rfl, HC2.out, HBl.out⟩
            case round =>
              rename_i wr1
              obtain ⟨p, hpl, rfl, hrun, hbel⟩ := hrel
              have HRp := hide hrun; have HBp := hide hbel
              clear hrun hbel hMk3
              by_cases hltp : p < k
              · obtain ⟨b3, off3, x, rfl, hb3, hx, hxi, hcx⟩ := at_int (HSV.out.below HBp.out (fun b h => h)) hltp
                have HX := hide (show m.saved.getD p 0 = x by simp [List.getD_eq_getElem?_getD, hx]); have HXI := hide hxi
                clear hx hxi
                have r0' := HRp.out.k0
                have r11' := HRp.out.k11
                have hXk := HRp.out.lt
                have hq : ∀ u : Ext, (Instr.lookup 97 (.map (some q.bc)) (.agg #[.bool false, .int .i64 x]) false).run Try.prog (wr.ext u) = .ok (.int .i64 ((C2 ⟨false, x⟩).getD 0)) (wr.ext u) := fun u =>
                  MapP.get (K := locK) (E := cellE) (x := ⟨false, x⟩) (HRp.out.cells.ext u) Try.underlying97 HXI.out
                have HGD := hide (show InI ((C2 ⟨false, x⟩).getD 0) from HRp.out.cells.getD_good ⟨false, x⟩)
                go_wp2_with fail
                refine wp_region_last_ext [] [] 13 (by kernel_rfl) rfl rfl rfl (by kernel_rfl) (by kernel_rfl) ?_
                simp only [List.take_succ_cons, List.take_zero]
                repeat (refine flow_known (by kernel_rfl) (fun K hK => ?_); go_simp; (first | (refine hK _ ?_; clear hK K) | (apply Exists.intro; refine ⟨fun _ => ?_, hK _ ?_⟩; ((go_at_call 42; exact reg9_any _ _)); clear hK K)))
                refine flow_done [] (by kernel_rfl) ?_
                intro u1
                simp only [List.nil_append, List.cons_append, endH_f, endH_t, endH_nil]
                go_simp
                refine wpList_put_map (K := locK) (E := cellE) rfl (.tmp 116) (.tmp 118) (.tmp 125) 97 rfl Try.underlying97 rfl (HRp.out.ext u1).first (by unfold maxLen; omega) ⟨false, x⟩ rfl HXI.out _ rfl HGD.out ?_
                intro w9 hm9 hg9
                have HR9 := hide ((HRp.out.ext u1).put_first hg9 hm9 (Nat.le_succ _))
                have HB9 := hide ((HBp.out.ext (by have := HBp.out.size; omega) u1).grown hg9 (by rw [size_ext]; have := HBp.out.size; omega) (fun g e => by injection e with e; subst e; rw [hEx.out.2]; exact hbfZ))
                clear hm9 hg9
                go_simp
                go_wp2_with fail
                go_roundw
                case rel =>
                  refine ⟨p + 1, by omega, by go_num, ?_, HB9.out⟩
                  rw [show fs1 m.saved C2 (p + 1) = upd (fs1 m.saved C2 p) ⟨false, x⟩ (some ((C2 ⟨false, x⟩).getD 0)) by simp only [fs1, HX.out]]
                  exact HR9.out
                case measure => simp [intOf]; omega
              · obtain rfl : p = k := by omega
                have HFIN := hide (show RunAt wr w.heap.size X (2 * p + l + p) q (startR m t args mem answers first) by
                  have := HRp.out; rw [HC2e.out, HR0.out, ← HL2.out] at this; rw [← HL2.out]; exact this)
                go_wp2_with fail
                go_ret2
                unfold RetBeg
                rw [HER.out, if_pos rfl]
                exact ⟨X, q, rfl, HFIN.out.more (by rw [HL2.out, HL3.out]; omega), Below.to_ext (HFZ.out.trans (HBp.out.mono (by omega)))⟩
  · have hb : (E != 0) = true := by rw [bne_iff_ne]; exact hE0
    have hb2 := hide hE0
    clear hE0
    go_enter Try.func16, Try.ntmps16
    go_wp2_with (go_at_call 39; refine (HRT.out _ (by repeat (first | assumption | exact Hd.out (by assumption) | apply Sl.alloc | apply Sl.ext | apply Sl.drew | apply Sl.drewN)) (by repeat (first | assumption | exact Hd.out (by assumption) | apply Sl.alloc | apply Sl.ext | apply Sl.drew | apply Sl.drewN)) (by repeat (first | assumption | exact Hd.out (by assumption) | apply Sl.alloc | apply Sl.ext | apply Sl.drew | apply Sl.drewN))).mono ?_; rintro e _ ⟨rfl, ux, rfl⟩)
    go_ret2
    have hER : errR m t args mem = E := by unfold errR; rw [HE.out]; exact if_pos hb2.out
    unfold RetBeg
    rw [hER, if_neg hb2.out]
    exact ⟨rfl, Below.to_ext (by repeat (first | exact Below.refl _ _ | assumption | refine Below.alloc ?_ (by simp [size_ext]; try omega) _ | refine Below.ext ?_ (by simp [size_ext]; try omega) _ | refine Below.drew ?_ | refine Below.setCell ?_ (by simp [size_ext]; try omega) _))⟩
end Go.Proofs.Ytkjipgelbjaggaa
