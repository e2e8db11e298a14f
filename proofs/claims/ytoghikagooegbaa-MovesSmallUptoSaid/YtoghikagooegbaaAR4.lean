/- Rows of instructions that lie apart: the walk of the kit's flat. Printed by gen_ar4.py. -/
import Derived.Test.YtoghikagooegbaaN1
import Derived.Test.YtoghikagooegbaaN6
import Derived.Test.YtoghikagooegbaaAP2
import Derived.Deep.OwnRows
import Derived.BigGuardPart
set_option linter.unusedSimpArgs false
set_option linter.unusedVariables false
namespace Go.Proofs.Ytoghikagooegbaa
open Go.RowKit
attribute [local instance] repInsN

theorem markIns_any (k i : Int) (w : World) (hk : 0 ≤ k ∧ k ≤ 100000000) (hi : 0 ≤ i ∧ i ≤ 100000000) : Calls Try.prog 69 #[.int .i64 k, .int .i64 i] w (RetX (.agg #[.int .i64 0, .int .i64 0, .int .i64 0, .int .i64 0, .int .i64 (markI k i), .int .i64 0, .slice none 0 0, .int .i64 0]) w) := by
  have HMA := hide (fun W => mark_any k i W hk hi)
  clear hk hi
  go_enter Try.func69, Try.ntmps69
  go_wp2_with (go_at_call 66; (with_reducible refine (HMA.out _).mono ?_); rintro e w' ⟨rfl, rfl⟩)
  refine bodyPost_ret (results_cell_row Try.results69 _ _ w.heap.size _ _ (0, 0) _ rfl (by have h := heap_alloc_new w; simpa using h _) Try.underlying54 rfl (by kernel_rfl)) rfl ?_
  exact ⟨rfl, Below.to_ext (by repeat (first | exact Below.refl _ _ | assumption | refine Below.alloc ?_ (by simp [size_ext]; try omega) _ | refine Below.ext ?_ (by simp [size_ext]; try omega) _ | refine Below.drew ?_ | refine Below.setCell ?_ (by simp [size_ext]; try omega) _))⟩
theorem wpList_make_rowsR {P : Program} (w : World) {ops : Array Oper} {rest : List Oper} {o : Oper} {a : Act} {Q : Exit → Act → World → Prop}
    (hg : o.guard = none) (l c : Operand) (t : TypeId) (hop : o.op = Op.makeSlice t l c)
    (e : TypeId) (i : TypeInfo) (z : Value) (ht : P.underlying t = some (.slice e)) (hi : P.info? e = some i) (hz : i.zero = some z) (s : Nat) (hsize : i.size = s) (cs : Array Value) (hz1 : z.cells = cs)
    (kl kc : IntKind) (n : Nat) (hl : a.eval l = .int kl (n : Int)) (hc : a.eval c = .int kc (n : Int)) (hbytes : i.bytes * n ≤ 281474976710656) (h63 : n ≤ 9223372036854775807)
    (hK : wpList P ops Q rest (a.put o.dst (.slice (some ⟨w.heap.size, 0, none⟩) n n)) (w.alloc (.cells (madeCells cs (n * s)) e))) :
    wpList P ops Q (o :: rest) a w := by
  refine wpList_plain hg fun K hK' => ?_
  have hrun := run_make (P := P) w t e i z ht hi hz kl kc n n (by omega) (Int.le_refl _) (by
    have h : ((i.bytes * n : Nat) : Int) ≤ 281474976710656 := by omega
    rwa [Int.natCast_mul] at h) (by omega)
  simp only [Int.toNat_natCast, hsize, hz1] at hrun
  unfold Oper.wp
  simp [execOp, hop, hl, hc, hrun, Result.andThen]
  exact hK' _ _ hK
theorem repR_is {w : World} {S : Nat → Prop} {m : Int} (h : InI m) : Rep.is w S (⟨0, 0, 0, 0, m, 0, [], 0⟩ : Ins) (cellsR m) :=
  ⟨rfl, ini_ (k := 0) (by omega), ini_ (k := 0) (by omega), ini_ (k := 0) (by omega), ini_ (k := 0) (by omega), h, ini_ (k := 0) (by omega), rfl, ini_ (k := 0) (by omega)⟩
theorem repR_one {w : World} {S : Nat → Prop} {m : Int} (h : InI m) : RepL w S [(⟨0, 0, 0, 0, m, 0, [], 0⟩ : Ins)] (cellsR m) := ⟨cellsR m, [], rfl, repR_is h, rfl⟩
theorem cells_new (w : World) (cs : Array Value) (T : TypeId) (j : Nat) (u : Value) (h : cs.toList[j]? = some u) : (w.alloc (.cells cs T)).cell? ((⟨w.heap.size, 0, none⟩ : Addr).add j) = some u := by
  have h1 := heap_alloc_new w (.cells cs T (0, 0))
  have h2 : cs[j]? = some u := by simpa using h
  rw [Addr.add_mid, Nat.zero_add, World.cell?, h1]
  simpa using h2
theorem OwnL.repl {α : Type} [Rep α] {w : World} {B : Nat} {T : TypeId} {g n c : Nat} {xs : List α} (h : OwnL w B T (fun _ => False) (.slice (some ⟨g, 0, none⟩) n c) xs) : ∃ us, RepL w (fun _ => False) xs us ∧ ∀ (j : Nat) (u : Value), us[j]? = some u → w.cell? ((⟨g, 0, none⟩ : Addr).add j) = some u := by
  obtain ⟨h1, h2, h3, h4, h5, h6, cur, h7, h8, h9⟩ := h.form_at
  refine ⟨_, h9, fun j u hj => ?_⟩
  rw [List.getElem?_take] at hj
  split at hj
  · have h2 : cur[j]? = some u := by simpa using hj
    rw [Addr.add_mid, Nat.zero_add, World.cell?, h7]
    simpa using h2
  · cases hj
theorem at_markR {w : World} {S : Nat → Prop} {n c : Nat} {A : Option Addr} {xs : List Ins} {mm : Int} (h : Sl w S A n c xs) {k : Nat} (hk : k < n) (hx : xs[k]? = some ⟨0, 0, 0, 0, mm, 0, [], 0⟩) :
    ∃ b off, A = some ⟨b, off, none⟩ ∧ b < w.heap.size ∧ w.cell? ⟨b, off + k * 8, none⟩ = some (.int .i64 0) ∧ w.cell? ⟨b, off + k * 8 + 1, none⟩ = some (.int .i64 0) ∧ w.cell? ⟨b, off + k * 8 + 2, none⟩ = some (.int .i64 0) ∧ w.cell? ⟨b, off + k * 8 + 3, none⟩ = some (.int .i64 0) ∧ w.cell? ⟨b, off + k * 8 + 4, none⟩ = some (.int .i64 mm) ∧ w.cell? ⟨b, off + k * 8 + 5, none⟩ = some (.int .i64 0) ∧ w.cell? ⟨b, off + k * 8 + 6, none⟩ = some (.slice none 0 0) ∧ w.cell? ⟨b, off + k * 8 + 7, none⟩ = some (.int .i64 0) := by
  obtain ⟨b, off, x, e, hb, hx', _, hc⟩ := at_InsN h hk
  rw [hx] at hx'
  injection hx' with hx'
  subst hx'
  refine ⟨b, off, e, hb, ?_, ?_, ?_, ?_, ?_, ?_, ?_, ?_⟩
  · have := hc 0 _ rfl; simpa [Nat.add_assoc] using this
  · have := hc 1 _ rfl; simpa [Nat.add_assoc] using this
  · have := hc 2 _ rfl; simpa [Nat.add_assoc] using this
  · have := hc 3 _ rfl; simpa [Nat.add_assoc] using this
  · have := hc 4 _ rfl; simpa [Nat.add_assoc] using this
  · have := hc 5 _ rfl; simpa [Nat.add_assoc] using this
  · have := hc 6 _ rfl; simpa [Nat.add_assoc] using this
  · have := hc 7 _ rfl; simpa [Nat.add_assoc] using this
theorem there8 {w : World} {b o : Nat} (h : w.there b o 8) : ((∃ v, w.cell? ⟨b, o, none⟩ = some v) ∧ (∃ v, w.cell? ⟨b, o + 1, none⟩ = some v) ∧ (∃ v, w.cell? ⟨b, o + 2, none⟩ = some v) ∧ (∃ v, w.cell? ⟨b, o + 3, none⟩ = some v) ∧ (∃ v, w.cell? ⟨b, o + 4, none⟩ = some v) ∧ (∃ v, w.cell? ⟨b, o + 5, none⟩ = some v) ∧ (∃ v, w.cell? ⟨b, o + 6, none⟩ = some v) ∧ (∃ v, w.cell? ⟨b, o + 7, none⟩ = some v)) ∧ w.frozen? ⟨b, o, none⟩ = false ∧ w.frozen? ⟨b, o + 1, none⟩ = false ∧ w.frozen? ⟨b, o + 2, none⟩ = false ∧ w.frozen? ⟨b, o + 3, none⟩ = false ∧ w.frozen? ⟨b, o + 4, none⟩ = false ∧ w.frozen? ⟨b, o + 5, none⟩ = false ∧ w.frozen? ⟨b, o + 6, none⟩ = false ∧ w.frozen? ⟨b, o + 7, none⟩ = false := by
  have e : ∀ j, j < 8 → ∃ v, w.cell? ⟨b, o + j, none⟩ = some v := fun j hj => Option.isSome_iff_exists.1 (h j hj).1
  exact ⟨⟨e 0 (by omega), e 1 (by omega), e 2 (by omega), e 3 (by omega), e 4 (by omega), e 5 (by omega), e 6 (by omega), e 7 (by omega)⟩, (h 0 (by omega)).2, (h 1 (by omega)).2, (h 2 (by omega)).2, (h 3 (by omega)).2, (h 4 (by omega)).2, (h 5 (by omega)).2, (h 6 (by omega)).2, (h 7 (by omega)).2⟩
set_option maxRecDepth 100000 in
set_option maxHeartbeats 40000000 in
theorem flatRow_any (w : World) (B : Nat) (S : Nat → Prop) (A : Option Addr) (n c : Nat) (hs : List Hdr) (f : Nat → List Ins) (hF : FlatR w w B S A n c hs f) (hB : B ≤ w.heap.size) (hn : n ≤ 1000) (hm : ∀ (k : Nat) (h : Hdr), hs[k]? = some h → h.n ≤ 1000000) :
    Calls Try.prog 53 #[.slice A n c] w (fun e w' => e = .returned (.bool true) ∧ Below B w w' ∧ ∀ b, S b → w'.heap[b]? = w.heap[b]?) := by
  have HM := hide hm; have HF0 := hide hF
  have hnA : n = 0 ∨ ∃ b off, A = some ⟨b, off, none⟩ := by
    rcases Nat.eq_zero_or_pos n with h | h
    · exact .inl h
    · obtain ⟨b, off, _, e, _⟩ := at_hdr hF.ls h; exact .inr ⟨b, off, e⟩
  have HNA := hide hnA
  have HL := hide hF.ls.len
  clear hm hF hnA
  go_enter Try.func53, Try.ntmps53
  go_wp2_with fail
  go_loopw [3] (fun a wr => ∃ (k : Nat) (f : Nat → List Ins), a = .int .i64 k ∧ k ≤ n ∧ FlatR w wr B S A n c hs f ∧ (∀ (j : Nat) (h : Hdr), j < k → hs[j]? = some h → f j = mkR j h.n)) (fun a _ => n - (intOf a).toNat)
  case atStart => exact ⟨0, f, rfl, Nat.zero_le _, HF0.out, fun j h hj => absurd hj (by omega)⟩
  case round =>
    obtain ⟨k, f1, rfl, hk, hF, hmk⟩ := hrel
    have HF := hide hF; have HMK := hide hmk
    clear hF hmk
    by_cases hlt : k < n
    · obtain ⟨b, off, h, hA, hb, hSb, hh, hc⟩ := at_hdr HF.out.ls hlt
      subst hA
      have HH := hide hh
      have hhn := HM.out k h hh
      clear hh
      go_wp2_with fail
      obtain ⟨V, hV⟩ : ∃ V, V = wr := ⟨_, rfl⟩
      subst hV
      clear hb hc
      go_loopw [4] (fun a wr => ∃ (i : Nat) (f' : Nat → List Ins), a = .int .i64 i ∧ i ≤ h.n ∧ FlatR w wr B S (some ⟨b, off, none⟩) n c hs f' ∧ (∀ (j : Nat) (h : Hdr), j < k → hs[j]? = some h → f' j = mkR j h.n) ∧ (f' k).take i = mkR k i) (fun a _ => h.n - (intOf a).toNat)
      case atStart => exact ⟨0, f1, rfl, Nat.zero_le _, HF.out, HMK.out, by simp [mkR]⟩
      case round =>
        obtain ⟨i, f2, rfl, hi, hF2, hm2, ht2⟩ := hrel
        have HF2 := hide hF2; have HM2 := hide hm2; have HT2 := hide ht2
        obtain ⟨b', off', h', hA', hb, _, hh', hc⟩ := at_hdr hF2.ls hlt
        injection hA' with hA'
        injection hA' with e1 e2
        subst e1 e2
        have eh : h' = h := by rw [HH.out] at hh'; injection hh' with e; exact e.symm
        subst eh
        have hwr : B ≤ wr.heap.size := by have := hF2.sz; omega
        clear hF2 hm2 ht2 hh'
        by_cases hli : i < h'.n
        · obtain ⟨ha, hn', hc'⟩ := h'
          simp only at hc hhn hi hli
          obtain ⟨g, ha', _⟩ := HF2.out.set HH.out hli (markR 0 (-7000021)) (markR_ok ⟨by decide, by decide⟩) hwr
          simp only at ha'
          subst ha'
          have hi9 : (i : Int) ≤ 100000000 := by omega
          have hk9 : (k : Int) ≤ 100000000 := by omega
          have HMI1 := hide (fun W => markIns_any k i W ⟨by omega, by omega⟩ ⟨by omega, by omega⟩)
          go_wp2_with fail
          refine wp_region_last_ext [] [] 9 (by kernel_rfl) rfl rfl rfl (by kernel_rfl) (by kernel_rfl) ?_
          simp only [List.take_succ_cons, List.take_zero]
          repeat (refine flow_known (by kernel_rfl) (fun K hK => ?_); go_simp; (first | (refine hK _ ?_; clear hK K) | (apply Exists.intro; refine ⟨fun _ => ?_, hK _ ?_⟩; ((go_at_call 69; exact HMI1.out _)); clear hK K)))
          refine flow_done [] (by kernel_rfl) ?_
          intro u
          simp only [List.nil_append, List.cons_append, endH_f, endH_t, endH_nil]
          go_simp
          obtain ⟨W1, hW1⟩ : ∃ W', wr.ext u = W' := ⟨_, rfl⟩
          have HF3 := hide (show FlatR w W1 B S (some ⟨b, off, none⟩) n c hs f2 by rw [← hW1]; exact HF2.out.ext hwr u)
          obtain ⟨g', ha', hgl, hth, hset⟩ := HF3.out.set HH.out hli (markR k i) (markR_ok (markI_bd (by omega) (by omega))) (by rw [← hW1, size_ext]; omega)
          simp only [Option.some.injEq, Addr.mk.injEq, and_true] at ha'
          subst ha'
          obtain ⟨W2, hW2⟩ : ∃ W', W1.setCells g (i * 8) (cellsN (markR k i)) = W' := ⟨_, rfl⟩
          rw [hW2] at hset
          have HST := hide hset
          rw [hW1]
          clear hW1 hset hc hb
          refine wpList_store_mid W1 rfl _ _ _ rfl g (i * 8) #[.int .i64 0, .int .i64 0, .int .i64 0, .int .i64 0, .int .i64 (markI k i), .int .i64 0, .slice none 0 0, .int .i64 0] (by go_num) (by go_num) hth (by kernel_rfl) (by simp [Value.oneCell']) ?_
          refine Eq.mpr (congrArg _ (show W1.setCells g (i * 8) _ = W2 from hW2)) ?_
          go_wp2_with fail
          have HTN := hide (show ((if k = k then (f2 k).set i (markR k i) else f2 k)).take (i + 1) = mkR k (i + 1) by
            rw [if_pos rfl, setR_succ (by rw [HF2.out.rows.len HH.out]; exact hli), HT2.out, mkR_succ])
          clear hW2 hgl hth
          go_roundw
          case rel => exact ⟨i + 1, _, by go_num, by omega, HST.out, fun j h hj hh => by rw [if_neg (by omega)]; exact HM2.out j h hj hh, HTN.out⟩
          case measure => simp [intOf]; omega
        · have hih : i = h'.n := by omega
          have HD := hide (show f2 k = mkR k h'.n by
            have := HT2.out
            rw [hih, List.take_of_length_le (by rw [HF2.out.rows.len HH.out]; exact Nat.le_refl _)] at this
            exact this)
          obtain ⟨ha, hn', hc'⟩ := h'
          simp only at hc hhn hi hli hih
          go_wp2_with fail
          go_roundw
          case rel => exact ⟨k + 1, f2, by go_num, by omega, HF2.out, fun j h hj hh => by
            by_cases hjk : j = k
            · subst hjk
              rw [HH.out] at hh
              injection hh with hh
              subst hh
              exact HD.out
            · exact HM2.out j h (by omega) hh⟩
          case measure => simp [intOf]; omega
    · have hkn : k = n := by omega
      have HFA := hide (show FlatR w wr B S A n c hs (MKR hs) from ⟨HF.out.ls, HF.out.rows.congr fun j h hh => by rw [HMK.out j h (by have := (List.getElem?_eq_some_iff.1 hh).1; have := HL.out; omega) hh, MKR_at hh], HF.out.nS, HF.out.bel, HF.out.Sb, HF.out.kp⟩)
      have hszr : w.heap.size ≤ wr.heap.size := HF.out.sz
      have HBR := hide (fun (j : Nat) (h : Hdr) (g : Nat) (hj : hs[j]? = some h) (hg : h.v.ownBlock = some g) => (HF.out.rows.lt hj hg).2)
      have hn9 : n ≤ 9223372036854775807 := by omega
      clear HMK HF
      obtain ⟨is, his, hsz, hsz1, hsz2⟩ := info_parts info_sRow
      have HIS := hide his; have HSZ := hide hsz; have HSZ1 := hide hsz1; have HSZ2 := hide hsz2
      obtain ⟨i0, hi, hz, hz1, hz2⟩ := info_parts info_Ins
      have HI0 := hide hi; have HZ := hide hz; have HZ1 := hide hz1; have HZ2 := hide hz2
      clear his hsz hsz1 hsz2 hi hz hz1 hz2
      obtain ⟨gb, hgb⟩ : ∃ gb, wr.heap.size = gb := ⟨_, rfl⟩
      go_wp2_with (at_make; refine wpList_make_row _ rfl _ _ 44 rfl 24 is _ Try.underlying44 HIS.out HSZ.out HSZ1.out rfl _ _ n rfl rfl (by rw [HSZ2.out]; omega) (by omega) ?_)
      obtain ⟨X, hX⟩ : ∃ W', wr.alloc (.cells (madeCells #[.slice none 0 0] n) 24) = W' := ⟨_, rfl⟩
      have HG0 := hide (show Q2 w X B S A n c hs gb (gb + 1) 0 (List.replicate n ⟨none, 0, 0⟩) from
        ⟨by rw [← hX]; exact HFA.out.belowAll (by omega) ((Below.refl _ _).alloc (Nat.le_refl _) _), ⟨by rw [← hX, ← hgb, made_hdrs]; exact heap_alloc_new wr _⟩, by simp, fun j h hj => absurd hj (by omega), ⟨by omega, by rw [← hX]; simp; omega, by omega, by omega⟩, fun k h g hk hg => by rw [← hgb]; exact HBR.out k h g hk hg⟩)
      go_wp2_with fail
      have HXQ := hide hX
      clear hX hgb HFA HBR hk hlt hkn
      go_loopw [6] (fun a wr => ∃ (k : Nat) (us : List Hdr), a = .int .i64 k ∧ k ≤ n ∧ Q2 w wr B S A n c hs gb (gb + 1) k us) (fun a _ => n - (intOf a).toNat)
      case atStart => exact ⟨0, _, rfl, Nat.zero_le _, by rw [HXQ.out]; exact HG0.out⟩
      case round =>
        obtain ⟨k, us, rfl, hk, hg2⟩ := hrel
        have HG := hide hg2
        clear hg2
        by_cases hlt : k < n
        · obtain ⟨b, off, h, hA, hb, hSb, hh, hc⟩ := at_hdr HG.out.F.ls hlt
          subst hA
          have HH := hide hh
          have hhn := HM.out k h hh
          clear hh
          obtain ⟨V, hV⟩ : ∃ V, V = wr := ⟨_, rfl⟩
          subst hV
          have HG3 := hide (show Q3 w V B S (some ⟨b, off, none⟩) n c hs gb (gb + 1) V.heap.size k us h 0 h from
            ⟨HG.out, HH.out, by rw [Nat.add_zero, ← MKR_at HH.out]; exact HG.out.F.rows.own k h HH.out, .inl rfl, fun j u g hj hu hg => by
              obtain ⟨hj', hjj⟩ : ∃ hj', hs[j]? = some hj' := ⟨_, List.getElem?_eq_getElem (by have := (List.getElem?_eq_some_iff.1 HH.out).1; omega)⟩
              obtain ⟨u', hu', ho, _⟩ := HG.out.u j hj' hj hjj
              rw [hu] at hu'
              injection hu' with hu'
              subst hu'
              exact (ho.below_ g hg).2, by have := HG.out.b2; omega⟩)
          go_wp2_with fail
          clear hb hc
          go_loopw [7, 8] (fun g a wr => ∃ (i : Nat) (gv : Hdr), g = gv.v ∧ a = .int .i64 i ∧ i ≤ 64 ∧ Q3 w wr B S (some ⟨b, off, none⟩) n c hs gb (gb + 1) V.heap.size k us h i gv) (fun _ a _ => 64 - (intOf a).toNat)
          case atStart => exact ⟨0, h, rfl, rfl, by omega, HG3.out⟩
          case round =>
            obtain ⟨i, gv, rfl, rfl, hi, hg3⟩ := hrel
            have H3 := hide hg3
            have hBw : B ≤ wr.heap.size := by have := hg3.g.b2; omega
            obtain ⟨b', off', h', hA', hb, _, hh', hc⟩ := at_hdr hg3.g.F.ls hlt
            injection hA' with hA'
            injection hA' with e1 e2
            subst e1 e2
            have eh : h' = h := by rw [HH.out] at hh'; injection hh' with e; exact e.symm
            subst eh
            have hgl := hg3.o.form
            have hln : gv.n = h'.n + i := by
              obtain ⟨_, _, e⟩ := hgl
              injection e with _ e _
              rw [mkR_len] at e
              exact e
            have HLN := hide hln
            clear hg3 hh' hgl hln
            by_cases hli : i < 64
            · obtain ⟨mm, hmm⟩ : ∃ mm, markI k ((h'.n : Int) + i) = mm := ⟨_, rfl⟩
              have HMM := hide hmm
              have HMI := hide (show InI mm by rw [← hmm, show ((h'.n : Int) + i) = ((h'.n + i : Nat) : Int) from by omega]; exact markI_bd (by omega) (by omega))
              have HMA := hide (fun W => show Calls Try.prog 69 #[.int .i64 k, .int .i64 ((h'.n : Int) + i)] W (RetX (.agg #[.int .i64 0, .int .i64 0, .int .i64 0, .int .i64 0, .int .i64 mm, .int .i64 0, .slice none 0 0, .int .i64 0]) W) from hmm ▸ markIns_any k ((h'.n : Int) + i) W ⟨by omega, by omega⟩ ⟨by omega, by omega⟩)
              clear hmm
              go_wp2_with (first | (go_at_call 69; (with_reducible refine (HMA.out _).mono ?_); rintro e V2 ⟨rfl, uV, hV2⟩; have H3V := hide (show Q3 w V2 B S (some ⟨b, off, none⟩) n c hs gb (gb + 1) V.heap.size k us h' i gv by rw [hV2]; exact H3.out.belowAll (Below.of_ext wr uV (Nat.le_refl _))); have HBV2 := hide (show B ≤ V2.heap.size by rw [hV2, size_ext]; omega); clear hV2 hb hc) | (at_builtin; refine wpList_pushR (α := Ins) (V2.alloc (.cells #[.int .i64 0, .int .i64 0, .int .i64 0, .int .i64 0, .int .i64 mm, .int .i64 0, .slice none 0 0, .int .i64 0] 54)) rfl (.tmp 57) (.tmp 67) 24 rfl B 54 i0 _ 80 Try.underlying24 HI0.out HZ.out HZ1.out HZ2.out rfl (by decide) gv.v (mkR k (h'.n + i)) [⟨0, 0, 0, 0, mm, 0, [], 0⟩] (cellsR mm) rfl (H3V.out.o.alloc _) ⟨V2.heap.size, 0, none⟩ 1 1 rfl rfl (repR_one HMI.out) (cells_new V2 _ _) (by rw [mkR_len]; unfold maxLen; omega) (by rw [mkR_len]; omega) (by simp; have := HBV2.out; omega) ?_; intro v' w' ho1 ho2 hgr h5))
              obtain ⟨gv', rfl, hg4⟩ := (H3V.out.belowAll ((Below.refl _ _).alloc (Nat.le_refl _) _)).push (by rw [← HMM.out] at ho1; rw [show ((h'.n + i : Nat) : Int) = (h'.n : Int) + i from by omega]; exact ho1) ho2 hgr h5
              have H4 := hide hg4
              clear ho1 ho2 hgr h5 hg4
              go_wp2_with fail
              go_roundw
              case rel => exact ⟨i + 1, gv', rfl, by go_num, by omega, H4.out⟩
              case measure => simp [intOf]; omega
            · have hi64 : i = 64 := by omega
              subst hi64
              obtain ⟨u0, hu0⟩ : ∃ u0, us[k]? = some u0 := ⟨_, List.getElem?_eq_getElem (by rw [H3.out.g.ul]; omega)⟩
              have hcg := H3.out.g.G.cell hu0
              have hfz := H3.out.g.G.fz k
              have hgbl := H3.out.g.G.lt
              have HST := hide H3.out.store
              clear hu0
              go_wp2_with fail
              go_roundw
              case rel => exact ⟨k + 1, us.set k gv, by go_num, by omega, HST.out⟩
              case measure => simp [intOf]; omega
        · have hkn : k = n := by omega
          subst hkn
          clear HG0 hlt hk
          go_wp2_with fail
          obtain ⟨Y, hY⟩ : ∃ Y, Y = wr := ⟨_, rfl⟩
          subst hY
          clear HXQ
          go_loopw [9] (fun a wr => ∃ (j : Nat) (v : Ext), a = .int .i64 j ∧ j ≤ k ∧ wr = Y.ext v) (fun a _ => k - (intOf a).toNat)
          case atStart => exact ⟨0, _, rfl, Nat.zero_le _, (ext_refl Y).choose_spec⟩
          case round =>
            obtain ⟨j, v, rfl, hj, rfl⟩ := hrel
            by_cases hlt : j < k
            · obtain ⟨b, off, h, hA, hb, hSb, hh, hc⟩ := at_hdr HG.out.F.ls hlt
              subst hA
              obtain ⟨u, hu, hou, _⟩ := HG.out.u j h hlt hh
              have HOH := hide (show OwnL Y B 54 (fun _ => False) h.v (mkR j h.n) by rw [← MKR_at hh]; exact HG.out.F.rows.own j h hh)
              have HOU := hide hou
              have hcu := HG.out.G.cell hu
              have hgbl := HG.out.G.lt
              have hhn := HM.out j h hh
              have hun : u.n = h.n + 64 := by
                obtain ⟨_, _, e⟩ := hou.form
                injection e with _ e _
                rw [mkR_len] at e
                exact e
              obtain ⟨ha, hn', hc'⟩ := h
              obtain ⟨ua, un, uc⟩ := u
              simp only at hun hc hcu hhn
              subst hun
              simp only at HOH HOU
              clear hh hu hou
              obtain ⟨Z, hZ⟩ : ∃ Z, Y.ext v = Z := ⟨_, rfl⟩
              have HZQ := hide hZ
              have zc : Z.cell? ⟨b, off + j, none⟩ = some (.slice ha hn' hc') := by rw [← hZ]; exact (cell?_ext Y v _ hb).trans hc
              have zu : Z.cell? ⟨gb, j, none⟩ = some (.slice ua (hn' + 64) uc) := by rw [← hZ]; exact (cell?_ext Y v _ hgbl).trans hcu
              have zb : b < Z.heap.size := by rw [← hZ, size_ext]; omega
              have zg : gb < Z.heap.size := by rw [← hZ, size_ext]; omega
              have ZOH := hide (show OwnL Z B 54 (fun _ => False) (.slice ha hn' hc') (mkR j hn') by rw [← hZ]; exact HOH.out.ext v)
              have ZOU := hide (show OwnL Z B 54 (fun _ => False) (.slice ua (hn' + 64) uc) (mkR j (hn' + 64)) by rw [← hZ]; exact HOU.out.ext v)
              rw [hZ]
              clear hZ hc hcu hb hgbl HOH HOU
              go_wp2_with fail
              go_loopw [10] (fun a wr => ∃ (i : Nat) (v : Ext), a = .int .i64 i ∧ i ≤ hn' + 64 ∧ wr = Z.ext v) (fun a _ => hn' + 64 - (intOf a).toNat)
              case atStart => exact ⟨0, _, rfl, Nat.zero_le _, (ext_refl Z).choose_spec⟩
              case round =>
                obtain ⟨i, v2, rfl, hi, rfl⟩ := hrel
                by_cases hli : i < hn' + 64
                · obtain ⟨X2, hX2⟩ : ∃ X, Z.ext v2 = X := ⟨_, rfl⟩
                  have HX2 := hide hX2
                  have xc : X2.cell? ⟨b, off + j, none⟩ = some (.slice ha hn' hc') := by rw [← hX2]; exact (cell?_ext Z v2 _ zb).trans zc
                  have xu : X2.cell? ⟨gb, j, none⟩ = some (.slice ua (hn' + 64) uc) := by rw [← hX2]; exact (cell?_ext Z v2 _ zg).trans zu
                  have xb : b < X2.heap.size := by rw [← hX2, size_ext]; omega
                  have xg : gb < X2.heap.size := by rw [← hX2, size_ext]; omega
                  obtain ⟨mm, hmm⟩ : ∃ mm, markI j i = mm := ⟨_, rfl⟩
                  have hul := (ZOU.out.ext v2).sl (S' := fun _ => True) (fun _ _ _ => trivial)
                  have hhl := (ZOH.out.ext v2).sl (S' := fun _ => True) (fun _ _ _ => trivial)
                  rw [hX2] at hul hhl
                  obtain ⟨bu, ofu, hua, hbu, x0, x1, x2, x3, x4, x5, x6, x7⟩ := at_markR hul hli (mm := mm) (by rw [mkR_at hli, ← hmm]; rfl)
                  subst hua
                  have HMA := hide (fun W => show Calls Try.prog 69 #[.int .i64 j, .int .i64 i] W (RetX (.agg #[.int .i64 0, .int .i64 0, .int .i64 0, .int .i64 0, .int .i64 mm, .int .i64 0, .slice none 0 0, .int .i64 0]) W) from hmm ▸ markIns_any j i W ⟨by omega, by omega⟩ ⟨by omega, by omega⟩)
                  have HSI := hide (fun W => show Calls Try.prog 26 #[.agg #[.int .i64 0, .int .i64 0, .int .i64 0, .int .i64 0, .int .i64 mm, .int .i64 0, .slice none 0 0, .int .i64 0], .agg #[.int .i64 0, .int .i64 0, .int .i64 0, .int .i64 0, .int .i64 mm, .int .i64 0, .slice none 0 0, .int .i64 0]] W (RetX (.bool true) W) from sameIns_any W (fun _ => True) (fun _ => True) none none 0 0 0 ⟨0, 0, 0, 0, mm, 0, [], 0⟩ Sl.nil Sl.nil)
                  have HHX := hide (show i < hn' → _ from fun hlh => at_markR hhl hlh (mm := mm) (by rw [mkR_at hlh, ← hmm]; rfl))
                  clear hul hhl
                  rw [hX2]
                  clear hX2 hmm zc zu zb zg
                  by_cases hlh : i < hn'
                  · obtain ⟨bh, ofh, hha, hbh, y0, y1, y2, y3, y4, y5, y6, y7⟩ := HHX.out hlh
                    subst hha
                    have hd : decide ((i : Int) < (hn' : Int)) = true := by simp; omega
                    go_wp2_with fail
                    refine wp_region_flow_ext [] [] (by kernel_rfl) rfl (by kernel_rfl) ?_
                    repeat (refine flow_known (by kernel_rfl) (fun K hK => ?_); go_simp; (first | (refine hK _ ?_; clear hK K) | (apply Exists.intro; refine ⟨fun _ => ?_, hK _ ?_⟩; (first | (go_at_call 69; exact HMA.out _) | (go_at_call 26; exact HSI.out _)); clear hK K)))
                    refine flow_done [] (by kernel_rfl) ?_
                    intro u6
                    simp only [List.nil_append, List.cons_append, endH_f, endH_t, endH_nil]
                    go_simp
                    go_wp2_with fail
                    go_roundw
                    case rel =>
                      obtain ⟨v3, hv3⟩ := ext_ext Z v2 u6
                      exact ⟨i + 1, v3, by go_num, by omega, by rw [← HX2.out, hv3]⟩
                    case measure => simp [intOf]; omega
                  · have hd : decide ((i : Int) < (hn' : Int)) = false := by simp; omega
                    clear HHX
                    go_wp2_with fail
                    refine wp_region_flow_ext [] [] (by kernel_rfl) rfl (by kernel_rfl) ?_
                    repeat (refine flow_known (by kernel_rfl) (fun K hK => ?_); go_simp; (first | (refine hK _ ?_; clear hK K) | (apply Exists.intro; refine ⟨fun _ => ?_, hK _ ?_⟩; (first | (go_at_call 69; exact HMA.out _) | (go_at_call 26; exact HSI.out _)); clear hK K)))
                    refine flow_done [] (by kernel_rfl) ?_
                    intro u6
                    simp only [List.nil_append, List.cons_append, endH_f, endH_t, endH_nil]
                    go_simp
                    go_wp2_with fail
                    go_roundw
                    case rel =>
                      obtain ⟨v3, hv3⟩ := ext_ext Z v2 u6
                      exact ⟨i + 1, v3, by go_num, by omega, by rw [← HX2.out, hv3]⟩
                    case measure => simp [intOf]; omega
                · go_wp2_with fail
                  go_roundw
                  case rel =>
                    obtain ⟨v3, hv3⟩ := ext_ext Y v v2
                    exact ⟨j + 1, v3, by go_num, by omega, by rw [← HZQ.out, hv3]⟩
                  case measure => simp [intOf]; omega
            · have hjk : j = k := by omega
              subst hjk
              obtain ⟨P4, hP4⟩ : ∃ P4, Y.ext v = P4 := ⟨_, rfl⟩
              have HG4 := hide (show Q2 w P4 B S A j c hs gb (gb + 1) j us by rw [← hP4]; exact HG.out.belowAll (Below.of_ext Y v (Nat.le_refl _)))
              rw [hP4]
              clear hP4 HG hj hlt
              go_wp2_with fail
              have HG40 := hide (show Q4 w P4 B S A j c hs gb P4.heap.size 0 us from ⟨HG4.out.F, HG4.out.G, HG4.out.ul, fun i h hi => absurd hi (by omega), by have := HG4.out.b2; omega, HG4.out.hb⟩)
              obtain ⟨B4, hB4⟩ : ∃ B4, P4.heap.size = B4 := ⟨_, rfl⟩
              rw [hB4] at HG40
              clear HG4 hB4
              go_loopw [11] (fun a wr => ∃ (k : Nat) (us : List Hdr), a = .int .i64 k ∧ k ≤ j ∧ Q4 w wr B S A j c hs gb B4 k us) (fun a _ => j - (intOf a).toNat)
              case atStart => exact ⟨0, us, rfl, Nat.zero_le _, HG40.out⟩
              case round =>
                obtain ⟨k, us4, rfl, hk, hg4⟩ := hrel
                have HG := hide hg4
                clear hg4
                by_cases hlt : k < j
                · obtain ⟨b, off, h, hA, hb, hSb, hh, hc⟩ := at_hdr HG.out.F.ls hlt
                  subst hA
                  have HH := hide hh
                  have hhn := HM.out k h hh
                  clear hh
                  have hBw : B ≤ wr.heap.size := by have := HG.out.b4; omega
                  go_wp2_with (at_make; refine wpList_make_rowsR _ rfl _ _ 24 rfl 54 i0 _ Try.underlying24 HI0.out HZ.out 8 HZ1.out #[.int .i64 0, .int .i64 0, .int .i64 0, .int .i64 0, .int .i64 0, .int .i64 0, .slice none 0 0, .int .i64 0] rfl _ _ 64 rfl rfl (by rw [HZ2.out]; omega) (by omega) ?_)
                  obtain ⟨V, hV⟩ : ∃ V, V = wr := ⟨_, rfl⟩
                  subst hV
                  have HOM := hide (show OwnL (V.alloc (.cells (madeCells #[.int .i64 0, .int .i64 0, .int .i64 0, .int .i64 0, .int .i64 0, .int .i64 0, .slice none 0 0, .int .i64 0] (64 * 8)) 54)) B 54 (fun _ => False) (.slice (some ⟨V.heap.size, 0, none⟩) 64 64) (List.replicate 64 (⟨0, 0, 0, 0, 0, 0, [], 0⟩ : Ins)) from
                    OwnL.made (α := Ins) (z := #[.int .i64 0, .int .i64 0, .int .i64 0, .int .i64 0, .int .i64 0, .int .i64 0, .slice none 0 0, .int .i64 0]) rfl (by decide) (repR_is (m := 0) ⟨by decide, by decide⟩) (by unfold maxLen; omega) hBw (fun h => h) rfl)
                  have hB5 : Below V.heap.size V (V.alloc (.cells (madeCells #[.int .i64 0, .int .i64 0, .int .i64 0, .int .i64 0, .int .i64 0, .int .i64 0, .slice none 0 0, .int .i64 0] (64 * 8)) 54)) := (Below.refl _ _).alloc (Nat.le_refl _) _
                  obtain ⟨X, hX⟩ : ∃ X, V.alloc (.cells (madeCells #[.int .i64 0, .int .i64 0, .int .i64 0, .int .i64 0, .int .i64 0, .int .i64 0, .slice none 0 0, .int .i64 0] (64 * 8)) 54) = X := ⟨_, rfl⟩
                  rw [hX] at hB5
                  have HB5 := hide hB5
                  clear hB5
                  rw [hX] at HOM
                  have hVX : V.heap.size < X.heap.size := by rw [← hX]; simp
                  rw [hX]
                  clear hX
                  obtain ⟨mb, hmb⟩ : ∃ mb, V.heap.size = mb := ⟨_, rfl⟩
                  have HMB := hide hmb
                  rw [hmb] at HOM hVX HB5
                  rw [hmb]
                  clear hmb
                  have hl0 : (List.replicate 64 (⟨0, 0, 0, 0, 0, 0, [], 0⟩ : Ins)).length = 64 := by simp
                  obtain ⟨ys0, hys0⟩ : ∃ ys0, List.replicate 64 (⟨0, 0, 0, 0, 0, 0, [], 0⟩ : Ins) = ys0 := ⟨_, rfl⟩
                  rw [hys0] at HOM hl0
                  have HL0 := hide hl0
                  clear hys0 hl0 hb hc
                  go_wp2_with fail
                  go_loopw [13] (fun a wr => ∃ (i : Nat) (ys : List Ins), a = .int .i64 i ∧ i ≤ 64 ∧ ys.length = 64 ∧ OwnL wr B 54 (fun _ => False) (.slice (some ⟨mb, 0, none⟩) 64 64) ys ∧ Below mb V wr ∧ mb < wr.heap.size) (fun a _ => 64 - (intOf a).toNat)
                  case atStart => exact ⟨0, ys0, rfl, Nat.zero_le _, HL0.out, HOM.out, HB5.out, hVX⟩
                  case round =>
                    obtain ⟨i, ys, rfl, hi, hyl, hoy, hbv, hmw⟩ := hrel
                    have HYL := hide hyl; have HOY := hide hoy; have HBV := hide hbv
                    clear hyl hoy hbv HOM HL0 HB5 hVX
                    by_cases hli : i < 64
                    · obtain ⟨mm, hmm⟩ : ∃ mm, markI (k + j) i = mm := ⟨_, rfl⟩
                      have HMI := hide (show InI mm by rw [← hmm]; exact markI_bd (by omega) (by omega))
                      have HMA := hide (fun W => show Calls Try.prog 69 #[.int .i64 ((k : Int) + j), .int .i64 i] W (RetX (.agg #[.int .i64 0, .int .i64 0, .int .i64 0, .int .i64 0, .int .i64 mm, .int .i64 0, .slice none 0 0, .int .i64 0]) W) from hmm ▸ (by have := markIns_any (k + j) i W ⟨by omega, by omega⟩ ⟨by omega, by omega⟩; simpa using this))
                      clear hmm
                      go_wp2_with (first | (go_at_call 69; (with_reducible refine (HMA.out _).mono ?_); rintro e V2 ⟨rfl, uV, hV2⟩; obtain ⟨hw2, hth⟩ := (show mb < V2.heap.size ∧ V2.there mb (i * 8) 8 from ⟨by rw [hV2, size_ext]; omega, by rw [hV2]; exact (HOY.out.ext uV).thereR hli⟩); obtain ⟨⟨⟨q0, d0⟩, ⟨q1, d1⟩, ⟨q2, d2⟩, ⟨q3, d3⟩, ⟨q4, d4⟩, ⟨q5, d5⟩, ⟨q6, d6⟩, ⟨q7, d7⟩⟩, f0, f1, f2, f3, f4, f5, f6, f7⟩ := there8 hth; have HOY2 := hide (show OwnL V2 B 54 (fun _ => False) (.slice (some ⟨mb, 0, none⟩) 64 64) ys by rw [hV2]; exact HOY.out.ext uV); have HBV2 := hide (show Below mb V V2 by rw [hV2]; exact HBV.out.ext (by omega) uV); clear hV2 hth))
                      have HST := hide (HOY2.out.setE hli (show Rep.is V2 (fun _ => False) (⟨0, 0, 0, 0, mm, 0, [], 0⟩ : Ins) (cellsR mm) from repR_is HMI.out))
                      go_roundw
                      case rel => exact ⟨i + 1, ys.set i ⟨0, 0, 0, 0, mm, 0, [], 0⟩, by go_num, by omega, by rw [List.length_set]; exact HYL.out, HST.out, ((((((((HBV2.out.setCell (Nat.le_refl _) _).setCell (Nat.le_refl _) _).setCell (Nat.le_refl _) _).setCell (Nat.le_refl _) _).setCell (Nat.le_refl _) _).setCell (Nat.le_refl _) _).setCell (Nat.le_refl _) _).setCell (Nat.le_refl _) _), by simpa using hw2⟩
                      case measure => simp [intOf]; omega
                    · have hi64 : i = 64 := by omega
                      subst hi64
                      have HG6 := hide (show Q4 w wr B S (some ⟨b, off, none⟩) j c hs gb B4 k us4 by exact HG.out.belowAll (HMB.out.symm ▸ HBV.out))
                      obtain ⟨b2, off2, h2, hA2, hb, _, hh2, hc⟩ := at_hdr HG6.out.F.ls hlt
                      injection hA2 with hA2
                      injection hA2 with e1 e2
                      subst e1 e2
                      have eh : h2 = h := by rw [HH.out] at hh2; injection hh2 with e; exact e.symm
                      subst eh
                      have HOH := hide (show OwnL wr B 54 (fun _ => False) h2.v (mkR k h2.n) by rw [← MKR_at HH.out]; exact HG6.out.F.rows.own k h2 HH.out)
                      have HBW := hide (show B ≤ wr.heap.size by have := HG6.out.b4; have := HG6.out.F.sz; omega)
                      clear HBV HG hh2
                      obtain ⟨us, hru, hcu⟩ := HOY.out.repl
                      have HRU := hide hru; have HCL := hide hcu
                      clear hru hcu
                      go_wp2_with (at_builtin; refine wpList_pushR (α := Ins) wr rfl (.tmp 148) (.tmp 149) 24 rfl B 54 i0 _ 80 Try.underlying24 HI0.out HZ.out HZ1.out HZ2.out rfl (by decide) h2.v (mkR k h2.n) ys us rfl HOH.out ⟨mb, 0, none⟩ 64 64 rfl HYL.out HRU.out HCL.out (by rw [mkR_len]; unfold maxLen; omega) (by rw [mkR_len]; omega) HBW.out ?_; intro v' w' ho1 ho2 hgr h5; obtain ⟨gv', rfl, ⟨u0, hcg⟩, hfz, hgbl, hg4⟩ := HG6.out.push hlt HH.out ho1 ho2 hgr h5; have H4 := hide hg4; clear ho1 ho2 hgr h5 hg4)
                      go_roundw
                      case rel => exact ⟨k + 1, _, by go_num, by omega, H4.out⟩
                      case measure => simp [intOf]; omega
                · have hkn : k = j := by omega
                  subst hkn
                  clear HG40 hlt hk
                  go_wp2_with fail
                  obtain ⟨Y4, hY4⟩ : ∃ Y4, Y4 = wr := ⟨_, rfl⟩
                  subst hY4
                  go_loopw [14] (fun a wr => ∃ (q : Nat) (v : Ext), a = .int .i64 q ∧ q ≤ k ∧ wr = Y4.ext v) (fun a _ => k - (intOf a).toNat)
                  case atStart => exact ⟨0, _, rfl, Nat.zero_le _, (ext_refl Y4).choose_spec⟩
                  case round =>
                    obtain ⟨q, v4, rfl, hq, rfl⟩ := hrel
                    by_cases hlt : q < k
                    · obtain ⟨b, off, h, hA, hb, hSb, hh, hc⟩ := at_hdr HG.out.F.ls hlt
                      subst hA
                      obtain ⟨u, ys, hu, hou, _⟩ := HG.out.u q h hlt hh
                      have HOH := hide (show OwnL Y4 B 54 (fun _ => False) h.v (mkR q h.n) by rw [← MKR_at hh]; exact HG.out.F.rows.own q h hh)
                      have HOU := hide hou
                      have hcu := HG.out.G.cell hu
                      have hgbl := HG.out.G.lt
                      have hhn := HM.out q h hh
                      have hun : u.n = h.n + ys.length := by
                        obtain ⟨_, _, e⟩ := hou.form
                        injection e with _ e _
                        rw [List.length_append, mkR_len] at e
                        exact e
                      obtain ⟨ha, hn', hc'⟩ := h
                      obtain ⟨ua, un, uc⟩ := u
                      simp only at hun hc hcu hhn
                      simp only at HOH HOU
                      clear hh hu hou
                      obtain ⟨Z, hZ⟩ : ∃ Z, Y4.ext v4 = Z := ⟨_, rfl⟩
                      have HZQ := hide hZ
                      have zc : Z.cell? ⟨b, off + q, none⟩ = some (.slice ha hn' hc') := by rw [← hZ]; exact (cell?_ext Y4 v4 _ hb).trans hc
                      have zu : Z.cell? ⟨gb, q, none⟩ = some (.slice ua un uc) := by rw [← hZ]; exact (cell?_ext Y4 v4 _ hgbl).trans hcu
                      have zb : b < Z.heap.size := by rw [← hZ, size_ext]; omega
                      have zg : gb < Z.heap.size := by rw [← hZ, size_ext]; omega
                      have ZOH := hide (show OwnL Z B 54 (fun _ => False) (.slice ha hn' hc') (mkR q hn') by rw [← hZ]; exact HOH.out.ext v4)
                      have ZOU := hide (show OwnL Z B 54 (fun _ => False) (.slice ua un uc) (mkR q hn' ++ ys) by rw [← hZ]; exact HOU.out.ext v4)
                      rw [hZ]
                      have hnu : hn' ≤ un := by omega
                      clear hZ hc hcu hb hgbl HOH HOU hun
                      go_wp2_with fail
                      go_loopw [15] (fun a wr => ∃ (i : Nat) (v : Ext), a = .int .i64 i ∧ i ≤ hn' ∧ wr = Z.ext v) (fun a _ => hn' - (intOf a).toNat)
                      case atStart => exact ⟨0, _, rfl, Nat.zero_le _, (ext_refl Z).choose_spec⟩
                      case round =>
                        obtain ⟨i, v2, rfl, hi, rfl⟩ := hrel
                        obtain ⟨X2, hX2⟩ : ∃ X, Z.ext v2 = X := ⟨_, rfl⟩
                        have HX2 := hide hX2
                        have xc : X2.cell? ⟨b, off + q, none⟩ = some (.slice ha hn' hc') := by rw [← hX2]; exact (cell?_ext Z v2 _ zb).trans zc
                        have xb : b < X2.heap.size := by rw [← hX2, size_ext]; omega
                        by_cases hli : i < hn'
                        · have xu : X2.cell? ⟨gb, q, none⟩ = some (.slice ua un uc) := by rw [← hX2]; exact (cell?_ext Z v2 _ zg).trans zu
                          have xg : gb < X2.heap.size := by rw [← hX2, size_ext]; omega
                          have hlu : i < un := by omega
                          obtain ⟨mm, hmm⟩ : ∃ mm, markI q i = mm := ⟨_, rfl⟩
                          have hul := (ZOU.out.ext v2).sl (S' := fun _ => True) (fun _ _ _ => trivial)
                          have hhl := (ZOH.out.ext v2).sl (S' := fun _ => True) (fun _ _ _ => trivial)
                          rw [hX2] at hul hhl
                          obtain ⟨bu, ofu, hua, hbu, x0, x1, x2, x3, x4, x5, x6, x7⟩ := at_markR hul hlu (mm := mm) (by rw [List.getElem?_append_left (by rw [mkR_len]; exact hli), mkR_at hli, ← hmm]; rfl)
                          obtain ⟨bh, ofh, hha, hbh, y0, y1, y2, y3, y4, y5, y6, y7⟩ := at_markR hhl hli (mm := mm) (by rw [mkR_at hli, ← hmm]; rfl)
                          subst hua hha
                          have HMA := hide (fun W => show Calls Try.prog 69 #[.int .i64 q, .int .i64 i] W (RetX (.agg #[.int .i64 0, .int .i64 0, .int .i64 0, .int .i64 0, .int .i64 mm, .int .i64 0, .slice none 0 0, .int .i64 0]) W) from hmm ▸ markIns_any q i W ⟨by omega, by omega⟩ ⟨by omega, by omega⟩)
                          have HSI := hide (fun W => show Calls Try.prog 26 #[.agg #[.int .i64 0, .int .i64 0, .int .i64 0, .int .i64 0, .int .i64 mm, .int .i64 0, .slice none 0 0, .int .i64 0], .agg #[.int .i64 0, .int .i64 0, .int .i64 0, .int .i64 0, .int .i64 mm, .int .i64 0, .slice none 0 0, .int .i64 0]] W (RetX (.bool true) W) from sameIns_any W (fun _ => True) (fun _ => True) none none 0 0 0 ⟨0, 0, 0, 0, mm, 0, [], 0⟩ Sl.nil Sl.nil)
                          clear hul hhl
                          rw [hX2]
                          clear hX2 hmm zc zu zb zg
                          go_wp2_with fail
                          refine wp_region_flow_ext [] [] (by kernel_rfl) rfl (by kernel_rfl) ?_
                          repeat (refine flow_known (by kernel_rfl) (fun K hK => ?_); go_simp; (first | (refine hK _ ?_; clear hK K) | (apply Exists.intro; refine ⟨fun _ => ?_, hK _ ?_⟩; (first | (go_at_call 69; exact HMA.out _) | (go_at_call 26; exact HSI.out _)); clear hK K)))
                          refine flow_done [] (by kernel_rfl) ?_
                          intro u6
                          simp only [List.nil_append, List.cons_append, endH_f, endH_t, endH_nil]
                          go_simp
                          go_wp2_with fail
                          go_roundw
                          case rel =>
                            obtain ⟨v3, hv3⟩ := ext_ext Z v2 u6
                            exact ⟨i + 1, v3, by go_num, by omega, by rw [← HX2.out, hv3]⟩
                          case measure => simp [intOf]; omega
                        · rw [hX2]
                          clear hX2
                          go_wp2_with fail
                          go_roundw
                          case rel =>
                            obtain ⟨v3, hv3⟩ := ext_ext Y4 v4 v2
                            exact ⟨q + 1, v3, by go_num, by omega, by rw [← HX2.out, ← HZQ.out, hv3]⟩
                          case measure => simp [intOf]; omega
                    · have hqk : q = k := by omega
                      subst hqk
                      have HBL := hide (show Below B w (Y4.ext v4) ∧ ∀ b, S b → (Y4.ext v4).heap[b]? = w.heap[b]? from have h := HG.out.F.ext (by have := HG.out.b4; have := HG.out.F.sz; omega) v4; ⟨h.bel, h.kp⟩)
                      clear HG hlt hq
                      go_wp2_with fail
                      go_ret
                      exact ⟨rfl, HBL.out⟩
end Go.Proofs.Ytoghikagooegbaa
