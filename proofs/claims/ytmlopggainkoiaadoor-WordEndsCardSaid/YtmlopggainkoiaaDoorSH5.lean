/- WordShows: its walk. -/
import Derived.Test.YtmlopggainkoiaaDoorSH4
import Derived.Laws.StructEq
import Derived.BigQuiet
set_option linter.unusedSimpArgs false
set_option linter.unusedVariables false
namespace Go.Proofs.YtmlopggainkoiaaDoor
open Go.RowKit

theorem OwnL.lit00 {α : Type} [Rep α] (w : World) (T : TypeId) (S : Nat → Prop) (hS : ¬ S w.heap.size) : OwnL (w.alloc (.cells #[] T)) w.heap.size T S (.slice (some ⟨w.heap.size, 0, none⟩) 0 0) ([] : List α) :=
  OwnL.of_block (cur := #[]) rfl (Nat.le_refl _) (by unfold maxLen; omega) (Nat.le_refl _) hS (heap_alloc_new w _) (by simp) (by simp [RepL])
theorem info_Word0 : (Tryd.prog.info? 31).map (fun i => (i.zero, i.size, i.bytes)) = some (some (.agg #[.int .i64 0, .string ⟨#[]⟩, .int .i64 0, .int .i64 0, .int .i64 0]), 5, 48) := by kernel_rfl
theorem stood_Word : Tryd.prog.stoodInHeld 31 = false := by kernel_rfl
theorem guard_Word : Tryd.prog.eqGuardType Tryd.prog.depth 31 = false := by kernel_rfl
theorem Sl.words {w : World} {S S' : Nat → Prop} {A : Option Addr} {n c : Nat} {xs : List Word} (h : Sl w S A n c xs) (hS : ∀ b, b < w.heap.size → S b → S' b) : Sl w S' A n c xs := h.more hS
theorem totL_len : ∀ xs : List Word, xs.length ≤ totL xs
  | [] => Nat.le_refl _
  | x :: l => by have := totL_len l; simp only [List.length_cons, totL]; omega

set_option maxRecDepth 100000 in
set_option maxHeartbeats 40000000 in
theorem wordShows_any (w : World) (S : Nat → Prop) (A : Option Addr) (n c : Nat) (xs : List Word) (r : Int) (h : Sl w S A n c xs) (hv : VarsS w) (hn1 : n ≤ 140737488355328) (ht : ∀ x ∈ xs, x.text.size ≤ 140737488355328) : Calls Tryd.prog 5 #[.slice A n c, .int .i32 r] w (RetX (.bool true) w) := by
  obtain ⟨i0, hi, hz, hz1, hz2⟩ := info_parts info_Word0
  have HI0 := hide hi; have HZ := hide hz; have HZ1 := hide hz1; have HZ2 := hide hz2
  clear hi hz hz1 hz2
  have HS := hide h; have HV := hide hv; have HT := hide ht
  clear h hv ht
  have HAW := hide (fun W (h : VarsS W) => awake01_any W h.v)
  go_enter Tryd.func5, Tryd.ntmps5
  go_wp2_with fail
  go_loopw [5, 6] (fun a b wr => wr = w ∧ ∃ (k s : Nat), a = .int .i64 s ∧ b = .int .i64 k ∧ k ≤ n ∧ s ≤ 140737488359328 ∧ s + totL (xs.drop k) + k = n + totL xs) (fun _ b _ => n - (intOf b).toNat)
  case atStart => exact ⟨rfl, 0, n, rfl, rfl, Nat.zero_le _, by omega, by simp⟩
  case round =>
    obtain ⟨rfl, k, s, rfl, rfl, hk, hs0, hsum⟩ := hrel
    have HSUM := hide hsum
    clear hsum
    by_cases hbig : 4000 < s
    · go_wp2_with (go_at_call 12; refine (HAW.out _ HV.out).mono ?_; rintro e _ ⟨rfl, u1, rfl⟩)
      all_goals go_ret
      all_goals exact ⟨rfl, u1, rfl⟩
    · by_cases hlt : k < n
      · obtain ⟨b, off, x, rfl, hb, hx, i0, i1, i2, i3, i4, c0, c1, c2, c3, c4⟩ := at_Word HS.out hlt
        have HTT := hide (totL_at hx)
        obtain ⟨kd, tx, nn, ln, cl⟩ := x
        simp only at i0 i1 i2 i3 i4 c0 c1 c2 c3 c4
        have htx : tx.size ≤ 140737488355328 := HT.out _ (List.mem_of_getElem? hx)
        have HS2 := hide (show s + tx.size + totL (xs.drop (k + 1)) + (k + 1) = n + totL xs by have := HSUM.out; rw [HTT.out] at this; dsimp only at this; omega)
        clear hx i0 i1 i2 i3 i4 HTT
        go_wp2_with fail
        go_roundw
        case rel => exact ⟨trivial, k + 1, s + tx.size, by go_num, by go_num, by omega, by omega, HS2.out⟩
        case measure => simp [intOf]; omega
      · have hk2 : k = n := by omega
        have HT2 := hide (show totL xs ≤ 4000 by have := HSUM.out; rw [drop_end HS.out.len hlt] at this; simp only [totL] at this; omega)
        have hn2 : n ≤ 4000 := by have := totL_len xs; have := HS.out.len; have := HT2.out; omega
        clear HSUM hs0 hk2
        have HSA := hide ((HS.out.more (S' := fun b => S b ∧ b < wr.heap.size) fun b hb h => ⟨h, hb⟩).alloc (.cells #[] 31))
        have HL := hide HS.out.len
        go_wp2_with (at_builtin; refine wpList_push_sl (α := Word) (wr.alloc (.cells #[] 31)) rfl (.tmp 36) (.tmp 37) 23 rfl wr.heap.size 31 i0 _ 48 Tryd.underlying23 HI0.out HZ.out HZ1.out HZ2.out rfl (by decide) (fun _ => False) (fun b => S b ∧ b < wr.heap.size) (fun b => S b ∧ b < wr.heap.size) (.slice (some ⟨wr.heap.size, 0, none⟩) 0 0) [] xs rfl (OwnL.lit00 wr _ _ (fun h => h)) A n c rfl HSA.out (fun _ h => h.elim) (fun _ _ h => h) (fun g hg h => by simp [Value.ownBlock] at hg; omega) (fun b h => by simp; omega) (by simp; omega) (by simp; omega) (by simp) ?_)
        intro v' w1 hown' hg _
        obtain ⟨A1, c1, rfl⟩ := hown'.form
        have HO := hide hown'.words
        have HB1 := hide (show Below wr.heap.size wr w1 from ((Below.refl _ _).alloc (Nat.le_refl _) _).grown hg (by simp) (fun g hg => by simp [Value.ownBlock] at hg; omega))
        clear hown' hg HSA
        rw [HL.out] at HO ⊢
        have HS1 := hide (HO.out.sl (S' := fun _ => True) fun _ _ _ => trivial)
        have HS2 := hide (HS.out.belowAll HB1.out)
        have HV1 := hide (HV.out.below HB1.out HV.out.v.sz)
        obtain ⟨R, hR⟩ : ∃ R, showF true xs ByteArray.empty = R := ⟨_, rfl⟩
        obtain ⟨sv, ev, hv⟩ : ∃ (s : ByteArray) (e : Int), showV R = #[.string s, .int .i64 e] := by cases R <;> exact ⟨_, _, rfl⟩
        have hc1 := show_any w1 _ A1 n c1 xs HS1.out HV1.out (by have := HT2.out; omega)
        have hc3 := fun W S' A' n' c' (h : Sl W S' A' n' c' xs) (h2 : VarsS W) => show1_any W S' A' n' c' xs h h2 (by have := HT2.out; omega)
        rw [hR] at hc1 hc3
        unfold RetShow at hc1 hc3
        rw [hv] at hc1 hc3
        have HC1 := hide hc1; have HC3 := hide hc3
        clear hc1 hc3 hv hR R
        go_wp2_with (go_at_call 19; refine HC1.out.mono ?_; rintro e _ ⟨rfl, u1, rfl⟩; refine Hd.out ?_)
        refine hide ?_
        have HC2 := hide (theirs_any (w1.ext u1) _ A n c xs (HS2.out.ext u1) (by omega))
        clear HC1
        go_wp2_with (go_at_call 21; refine HC2.out.mono ?_; rintro e _ ⟨A2, n2, c2, S2, rfl, ho2, _, u2, rfl⟩; have HO2 := hide ho2; clear ho2; refine Hd.out ?_)
        refine hide ?_
        have HC4 := hide (HC3.out ((w1.ext u1).ext u2) (fun _ => True) A2 n2 c2 (HO2.out.sl fun _ _ _ => trivial) ((HV1.out.ext u1).ext u2))
        clear HC2 HC3
        go_wp2_with (go_at_call 20; refine HC4.out.mono ?_; rintro e _ ⟨rfl, u3, rfl⟩; refine Hd.out ?_)
        refine hide ?_
        obtain ⟨W3, hW3⟩ : ∃ W3, ((w1.ext u1).ext u2).ext u3 = W3 := ⟨_, rfl⟩
        have HB3 := hide (show Below wr.heap.size wr W3 by rw [← hW3]; exact ((HB1.out.ext HB1.out.size u1).ext (by simp only [size_ext]; have := HB1.out.size; omega) u2).ext (by simp only [size_ext]; have := HB1.out.size; omega) u3)
        have HV3 := hide (show VarsS W3 by rw [← hW3]; exact ((HV1.out.ext u1).ext u2).ext u3)
        have HSI := hide (show Sl W3 (fun _ => True) A1 n c1 xs by rw [← hW3]; exact ((HS1.out.ext u1).ext u2).ext u3)
        have HSL := hide (show Sl W3 S A n c xs by rw [← hW3]; exact ((HS2.out.ext u1).ext u2).ext u3)
        clear HC4 HO2 HS1 HS2 HV1 HO
        rw [hW3]
        clear hW3
        go_wp2_with fail
        go_loopw [12] (fun i wz => ∃ k : Nat, k ≤ n ∧ i = .int .i64 k ∧ ∃ u, wz = W3.ext u) (fun i _ => n - (intOf i).toNat)
        case atStart => exact ⟨0, Nat.zero_le _, rfl, ext_refl _⟩
        case round =>
          obtain ⟨k, hk, rfl, u, rfl⟩ := hrel
          by_cases hlt : k < n
          · obtain ⟨b, off, x, rfl, hb, hx, i0, i1, i2, i3, i4, c0, c1, c2, c3, c4⟩ := at_Word HSL.out hlt
            obtain ⟨b', off', x', rfl, hb', hx', _, _, _, _, _, d0, d1, d2, d3, d4⟩ := at_Word HSI.out hlt
            obtain rfl : x = x' := Option.some.inj (hx.symm.trans hx')
            clear hx hx' i0 i1 i2 i3 i4
            have e1 := stood_Word; have e2 := guard_Word
            go_wp2_with fail
            refine wp_region_ext (by kernel_rfl) (by kernel_rfl) ?_
            repeat (any_goals (first | go_big_quiet_step ((fail)) | quiet_step ((fail))))
            refine wpQuiet_nil ?_
            rintro _ ⟨uq, rfl⟩
            go_wp2_with fail
            go_roundw
            case rel => exact ⟨k + 1, by omega, by go_num, ext_ext W3 u uq⟩
            case measure => simp [intOf]; omega
          · obtain ⟨bl, hbl⟩ : ∃ bl, isL r = bl := ⟨_, rfl⟩
            obtain ⟨bs, hbs⟩ : ∃ bs, isS r = bs := ⟨_, rfl⟩
            have HL1 := hide (fun W => letter_any r W); have HL2 := hide (fun W => letter1_any r W)
            have HS1 := hide (fun W => sign_any r W); have HS2 := hide (fun W => sign1_any r W)
            rw [hbl] at HL1 HL2; rw [hbs] at HS1 HS2
            clear hbl hbs
            have HA := hide (HAW.out (W3.ext u) (HV3.out.ext u))
            go_wp2_with (first | (go_at_call 22; refine (HL1.out _).mono ?_; rintro e w' ⟨rfl, rfl⟩) | (go_at_call 23; refine (HL2.out _).mono ?_; rintro e w' ⟨rfl, rfl⟩) | (go_at_call 24; refine (HS1.out _).mono ?_; rintro e w' ⟨rfl, rfl⟩) | (go_at_call 25; refine (HS2.out _).mono ?_; rintro e w' ⟨rfl, rfl⟩) | (go_at_call 12; refine HA.out.mono ?_; rintro e _ ⟨rfl, u5, rfl⟩))
            go_ret
            exact RetX.b rfl ((HB3.out.ext HB3.out.size u).ext (by simp only [size_ext]; have := HB3.out.size; omega) u5)
end Go.Proofs.YtmlopggainkoiaaDoor
