/- Walks: the document's briefs; are briefs that were lent as they were. -/
import Derived.Test.YthmglmmafgdmhaaGreatTD5
set_option linter.unusedSimpArgs false
set_option linter.unusedVariables false
namespace Go.Proofs.YthmglmmafgdmhaaGreat
open Go.RowKit Go.Maps

/-- A brief in a new row. -/
def LitB (B : Nat) (x : Brief) : Nat → Nat → Post := fun lo hi v w => ∃ A c, v = .slice A 1 c ∧ Sl w (fun b => b < B ∨ lo ≤ b ∧ b < hi) A 1 c [x] ∧ B ≤ lo
theorem LitB.stable_ {F : World → Prop} {B : Nat} {x : Brief} {mem : Bool} (hm : mem = true) (lo hi : Nat) : stable F mem (LitB B x lo hi) :=
  stable_mem hm fun _ w u ⟨A, c, hv, h, h2⟩ => ⟨A, c, hv, h.ext u, h2⟩
/-- It returns a list in memory, that reads as it did. -/
def RetRefs (l : List Brief) (w : World) (e : Ending) (w' : World) : Prop :=
  ∃ A n c, e = .returned (.slice A n c) ∧ Sl w' (fun _ => True) A n c l ∧ n = l.length ∧ ∃ u : Ext, w' = w.ext u
set_option maxRecDepth 100000 in
set_option maxHeartbeats 8000000 in
theorem refs23_any (w : World) (S : Nat → Prop) (A : Option Addr) (n c : Nat) (l : List Brief) (h : Sl w S A n c l) (hn : n ≤ 1048576) :
    Calls Tryz.prog 12 #[.slice A n c] w (RetRefs l w) := by
  have HL := hide h.len
  have HS := hide (h.more (S' := fun g => g < w.heap.size) fun _ hb _ => hb)
  clear h
  obtain ⟨i0, hi, hz, hz1, hz2⟩ := info_parts info_BriefR
  have HI0 := hide hi; have HZ := hide hz; have HZ1 := hide hz1; have HZ2 := hide hz2
  clear hi hz hz1 hz2
  go_enter Tryz.func12, Tryz.ntmps12
  go_wp2
  go_loopw [3, 4] (fun o i wr => ∃ (k : Nat) (So : Nat → Prop), k ≤ n ∧ i = .int .i64 k ∧ OwnL wr w.heap.size 46 So o (l.take k) ∧ (∀ b, So b → b < wr.heap.size) ∧ Below w.heap.size w wr) (fun _ i _ => n - (intOf i).toNat)
  case atStart => exact ⟨0, fun _ => False, Nat.zero_le _, rfl, OwnL.nil_ _ _ _ _, fun _ h => h.elim, Below.refl _ _⟩
  case round =>
    obtain ⟨k, So, hk, rfl, hoq, hSo, hbq⟩ := hrel
    have HOQ := hide hoq; have HSO := hide hSo; have HBQ := hide hbq
    have hsl := HS.out.belowAll hbq
    have hwq := hbq.size
    have hoB := hoq.below_
    clear hoq hSo hbq
    by_cases hlt : k < n
    · obtain ⟨b, off, bx, A1, n1, c1, A2, n2, c2, A3, n3, c3, rfl, hb, hx, s1, s2, s3, k0, k1, k2⟩ := at_Brief hsl hlt
      have HT := hide (take_at hx)
      have S1 := hide s1; have S2 := hide s2; have S3 := hide s3
      have hki : (k : Int) < n := by omega
      have hln : (l.take k).length ≤ 1048576 := by rw [List.length_take]; omega
      clear hx hsl s1 s2 s3
      go_wp2_with fail
      refine wp_region_flowI [17] 18 (by kernel_rfl) rfl (by kernel_rfl) (by kernel_rfl) ?_
      simp only [List.take_succ_cons, List.take_zero, List.drop_succ_cons, List.drop_zero]
      repeat (refine flowI_known (by kernel_rfl) (fun K hK => ?_); go_simp; (first | (refine hK _ ?_; clear hK K) | (apply Exists.intro; refine ⟨fun _ => ?_, hK _ ?_⟩; (fail); clear hK K)))
      refine flowI_keep0 (LitB w.heap.size bx) (by kernel_rfl) (LitB.stable_ rfl) ?_ ?_
      · intro u
        go_simp
        refine ⟨⟨_, _, rfl, Sl.lit (α := Brief) (S := fun b => b < w.heap.size) (us := [.slice A1 n1 c1, .slice A2 n2 c2, .slice A3 n3 c3]) (size_ext ..).symm (RepL.single (Brief.mk_ (S1.out.ext u) (S2.out.ext u) (S3.out.ext u))) rfl (by simp) (fun b h => .inl h) (.inr ⟨by first | omega | (rw [size_ext]; omega), by first | omega | (rw [World.size_alloc, size_ext]; omega)⟩), by first | omega | (rw [size_ext]; omega)⟩, onW_alloc rfl ⟨u, rfl⟩⟩
      refine flowI_done [true] rfl ?_
      intro γ u hap
      simp only [List.nil_append, List.cons_append, List.map_cons, List.map_nil, atG, endH_f, endH_t, endH_nil]
      rintro _ ⟨B1, e1, rfl, t1, _⟩
      have a17 := hap.1 ⟨17, some 28, LitB w.heap.size bx⟩ (by simp)
      simp only [Nat.zero_add, Nat.reduceAdd] at t1 a17
      generalize (γ 17).1 = lo2 at t1 a17
      generalize (γ 17).2 = hi2 at t1 a17
      have T1 := hide t1
      have h2a := a17.1; have h2b := a17.2.2
      clear hap t1 a17
      have hwe : w.heap.size ≤ (wr.ext u).heap.size := by rw [size_ext]; omega
      have HOE := hide (HOQ.out.ext u)
      have HBE := hide (HBQ.out.ext hwq u)
      have hzE : wr.heap.size ≤ (wr.ext u).heap.size := by rw [size_ext]; omega
      have h2c : hi2 ≤ (wr.ext u).heap.size := by first | exact h2b | (rw [size_ext]; omega)
      obtain ⟨We, hWe⟩ : ∃ We, wr.ext u = We := ⟨_, rfl⟩
      rw [hWe] at T1 HOE HBE hwe hzE h2c ⊢
      clear hWe h2b
      go_simp
      refine wpList_push_sl (α := Brief) We rfl (.tmp 11) (.tmp 28) 32 rfl w.heap.size 46 i0 _ 72 Tryz.underlying32 HI0.out HZ.out HZ1.out HZ2.out rfl (by decide) So (fun b => So b ∨ (b < w.heap.size ∨ lo2 ≤ b ∧ b < hi2)) (fun b => b < w.heap.size ∨ lo2 ≤ b ∧ b < hi2) u3 (l.take k) [bx] rfl HOE.out B1 1 e1 rfl T1.out (fun _ h => .inl h) (fun _ _ h => .inr h) ?hap ?hnew (by omega) (by omega) hwe ?_
      case hap =>
        intro g hg h
        have := hoB g hg
        rcases h with h | h | h
        · exact absurd HOE.out (fun ⟨_, _, _, h3⟩ => h3 g hg h)
        · omega
        · omega
      case hnew =>
        intro b h
        rcases h with h | h | h
        · have := HSO.out b h; omega
        · omega
        · omega
      intro v' w1 hown' hg _
      have HO' := hide hown'; have HG := hide hg
      clear hown' hg
      go_wp2_with fail
      go_roundw
      case rel =>
        have hgs := HG.out.size
        exact ⟨k + 1, _, by omega, by go_num, by rw [HT.out]; exact HO'.out, fun b h => by
          rcases h with h | h | h
          · have := HSO.out b h; omega
          · omega
          · omega, HBE.out.grown HG.out hwe fun r e => (hoB r e).1⟩
      case measure => simp [intOf]; omega
    · have hkn : k = n := by omega
      subst hkn
      have hlk : l.take k = l := List.take_of_length_le (by rw [HL.out]; exact Nat.le_refl _)
      rw [hlk] at HOQ
      obtain ⟨A', c', rfl⟩ := HOQ.out.form
      clear hsl
      go_wp2_with fail
      go_ret
      exact ⟨A', _, c', rfl, HOQ.out.sl fun _ _ _ => trivial, rfl, HBQ.out.to_ext⟩
set_option maxRecDepth 100000 in
set_option maxHeartbeats 8000000 in
theorem kept23_any (w : World) (S S' : Nat → Prop) (A A' : Option Addr) (n c c' : Nat) (l : List Brief) (h : Sl w S A n c (lbs l)) (h' : Sl w S' A' n c' l) (hn : n ≤ 1048576) (hl : ∀ b ∈ l, b.vars.length ≤ 1048576 ∧ b.colors.length ≤ 1048576 ∧ b.edge.length ≤ 1048576) :
    Calls Tryz.prog 16 #[.slice A n c, .slice A' n c'] w (RetX (.bool true) w) := by
  have HL := hide h'.len
  have HS := hide h
  have HS' := hide h'
  have HLL := hide hl
  clear h h' hl
  go_enter Tryz.func16, Tryz.ntmps16
  go_wp2
  go_loopw [5] (fun i wr => ∃ k : Nat, k ≤ n ∧ i = .int .i64 k ∧ ∃ u, wr = w.ext u) (fun i _ => n - (intOf i).toNat)
  case atStart => exact ⟨0, Nat.zero_le _, rfl, ext_refl _⟩
  case round =>
    obtain ⟨k, hk, rfl, hu⟩ := hrel
    have sl : Sl wr S A n c (lbs l) := by obtain ⟨u, rfl⟩ := hu; exact HS.out.ext u
    have sl' : Sl wr S' A' n c' l := by obtain ⟨u, rfl⟩ := hu; exact HS'.out.ext u
    have HU := hide hu
    clear hu
    by_cases hlt : k < n
    · obtain ⟨b', off', bx, A1', n1', c1', A2', n2', c2', A3', n3', c3', rfl, hb', hx, s1, s2, s3, j0, j1, j2⟩ := at_Brief sl' hlt
      obtain ⟨z1, z2, z3⟩ := HLL.out bx (List.mem_of_getElem? hx)
      obtain ⟨b, off, A1, c1, A2, c2, A3, c3, rfl, hb, t1, t2, t3, k0, k1, k2⟩ := at_LB sl hlt hx
      have l1 := s1.len; have l2 := s2.len; have l3 := s3.len
      subst l1 l2 l3
      have C1 := hide (fun u : Ext => keptInts_any (wr.ext u) _ _ A1 A1' bx.vars.length c1 c1' bx.vars (t1.ext u) (s1.ext u) z1)
      have C2 := hide (fun u : Ext => keptInts_any (wr.ext u) _ _ A2 A2' bx.colors.length c2 c2' bx.colors (t2.ext u) (s2.ext u) z2)
      have C3 := hide (fun u : Ext => keptInts_any (wr.ext u) _ _ A3 A3' bx.edge.length c3 c3' bx.edge (t3.ext u) (s3.ext u) z3)
      have hki : (k : Int) < n := by omega
      clear hx sl sl' s1 s2 s3 t1 t2 t3 z1 z2 z3
      go_wp2_with fail
      refine wp_region_ext (by kernel_rfl) (by kernel_rfl) ?_
      repeat (any_goals (first | go_big_quiet_step ((first | (go_at_call 15; with_reducible exact quiet_retx (C1.out _)) | (go_at_call 15; with_reducible exact quiet_retx (C2.out _)) | (go_at_call 15; with_reducible exact quiet_retx (C3.out _)))) | quiet_step ((first | (go_at_call 15; with_reducible exact quiet_retx (C1.out _)) | (go_at_call 15; with_reducible exact quiet_retx (C2.out _)) | (go_at_call 15; with_reducible exact quiet_retx (C3.out _))))))
      refine wpQuiet_nil ?_
      rintro _ ⟨uq, rfl⟩
      go_wp2_with fail
      go_roundw
      case rel => exact ⟨k + 1, by omega, by go_num, by obtain ⟨u, hu⟩ := HU.out; rw [hu]; exact ext_ext _ _ _⟩
      case measure => simp [intOf]; omega
    · clear sl sl'
      go_wp2_with fail
      go_ret
      exact RetX.b rfl (by obtain ⟨u, hu⟩ := HU.out; rw [hu]; exact Below.of_ext w u (Nat.le_refl _))
end Go.Proofs.YthmglmmafgdmhaaGreat
