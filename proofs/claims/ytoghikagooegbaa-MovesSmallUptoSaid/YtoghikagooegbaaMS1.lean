/- Walks: law 26: MovesSmall. Printed by gen_ms1.py. -/
import Derived.Test.YtoghikagooegbaaMW7
import Derived.Test.YtoghikagooegbaaFlow6
import Derived.BigGuardPart
set_option linter.unusedSimpArgs false
set_option linter.unusedVariables false
namespace Go.Proofs.Ytoghikagooegbaa
open Go.RowKit Go.Maps

theorem tmodN (n k : Nat) : (n : Int).tmod (k : Int) = ((n % k : Nat) : Int) := by rw [Int.tmod_eq_emod_of_nonneg (by omega)]; rfl
theorem tdivN (n k : Nat) : (n : Int).tdiv (k : Int) = ((n / k : Nat) : Int) := by rw [Int.tdiv_eq_ediv_of_nonneg (by omega)]; rfl
def SlIw {α : Type} [Rep α] (n : Nat) (xs : List α) : Nat → Nat → Post := fun lo hi v w => ∃ A c, v = .slice A n c ∧ Sl w (fun b => lo ≤ b ∧ b < hi) A n c xs
theorem SlIw.stable_ {α : Type} [Rep α] {F : World → Prop} {n : Nat} {xs : List α} {mem : Bool} (hm : mem = true) (lo hi : Nat) : stable F mem (SlIw n xs lo hi) :=
  stable_mem hm fun _ _ u ⟨A, c, hv, h⟩ => ⟨A, c, hv, h.ext u⟩
instance decInI (x : Int) : Decidable (InI x) := by unfold InI; infer_instance
/-- Places, one behind the other. -/
def locV (ls : List Loc) : List Value := ls.flatMap fun l => [.bool l.slot, .int .i64 l.n]
theorem RepL.locs {w : World} {S : Nat → Prop} : ∀ ls : List Loc, (∀ l ∈ ls, InI l.n) → RepL w S ls (locV ls)
  | [], _ => rfl
  | x :: l, h => ⟨_, _, rfl, Loc.mk_ (h x List.mem_cons_self), RepL.locs l fun y hy => h y (List.mem_cons_of_mem x hy)⟩
/-- Moves, one behind the other. -/
def movV (ls : List Move) : List Value := ls.flatMap fun x => [.bool x.src.slot, .int .i64 x.src.n, .bool x.dst.slot, .int .i64 x.dst.n]
theorem RepL.movs {w : World} {S : Nat → Prop} : ∀ ls : List Move, (∀ x ∈ ls, InI x.src.n ∧ InI x.dst.n) → RepL w S ls (movV ls)
  | [], _ => rfl
  | x :: l, h => ⟨_, _, rfl, Move.mk_ (h x List.mem_cons_self).1 (h x List.mem_cons_self).2, RepL.movs l fun y hy => h y (List.mem_cons_of_mem x hy)⟩
theorem at_LocB {w : World} {S : Nat → Prop} {b off n c : Nat} {xs : List Loc} (h : Sl w S (some ⟨b, off, none⟩) n c xs) {k : Nat} (hk : k < n) :
    ∃ x : Loc, b < w.heap.size ∧ InI x.n ∧ w.cell? ⟨b, off + k * 2, none⟩ = some (.bool x.slot) ∧ w.cell? ⟨b, off + k * 2 + 1, none⟩ = some (.int .i64 x.n) := by
  obtain ⟨b', off', x, e, hb, _, hi, h1, h2⟩ := at_Loc h hk
  injection e with e
  injection e with e1 e2
  subst e1 e2
  exact ⟨x, hb, hi, h1, h2⟩
/-- append onto a literal, where it is guarded. -/
theorem HeldAt.push_fullG {P : Program} {ops : Array Oper} {F : World → Prop} {wild : Bool} {α : Type} [Rep α] {o : Oper} {a : Act} {w : World} (hgd : Region.wanted o (yielded ops a.tmps) = true) (s x : Operand) (t : TypeId)
    (ho : o.op = .call { callee := .builtin .append, args := #[s, x], argTypes := #[t, t] }) (T : TypeId) (i : TypeInfo) (z : Value) (bytes : Nat) (ht : P.underlying t = some (.slice T)) (hi : P.info? T = some i) (hz : i.zero = some z)
    (hsize : i.size = Rep.size α) (hby : i.bytes = bytes) (hzs : z.cells.size = Rep.size α) (hsz : 0 < Rep.size α)
    (S S2 : Nat → Prop) (b : Addr) (n : Nat) (xs ys : List α) (hs : a.eval s = .slice (some b) n n) (hl : Sl w S (some b) n n xs) (A : Option Addr) (m c : Nat) (hx : a.eval x = .slice A m c) (hr : Sl w S2 A m c ys)
    (h63 : n + m ≤ 9223372036854775807) (hbytes : (n + m) * bytes ≤ 140737488355328) (hon : ∀ u : Ext, onW F wild w (w.ext u)) : HeldAt P ops F wild o a (SlP (n + m) (xs ++ ys)) w := by
  unfold HeldAt
  rw [if_pos hgd]
  obtain ⟨v', w', hrun, ⟨u, rfl⟩, A', c', rfl, hsl⟩ := run_push_full (P := P) w t o.type T i z bytes ht hi hz hsize hby hzs hsz S S2 (fun _ => True) b n xs ys hl A m c hr (fun _ _ _ => trivial) (fun _ _ _ => trivial) (fun _ _ => trivial) h63 hbytes
  unfold execOp
  simp only [ho, resolve, invoke, builtin, Sem.run_bind, Sem.run_pure, Result.andThen_ok, List.map_toArray, List.map_cons, List.map_nil, hs, hx, hrun]
  exact ⟨⟨_, _, _, rfl, hsl⟩, hon u⟩

set_option maxRecDepth 100000 in
set_option maxHeartbeats 40000000 in
theorem movesSmall_any (w : World) : Calls Try.prog 4 #[] w (RetX (.bool true) w) := by
  have HMR := hide movesRows_any
  have HMN := hide (fun (V : World) (t : Int) (ht : InI t) => movesRows_any V (fun _ => True) none 0 0 [] Sl.nil t ht)
  have HAW := hide awake26_any
  have HBc := hide (Below.refl w.heap.size w)
  obtain ⟨i0, hi, hz, hz1, hz2⟩ := info_parts info_Move
  have HI0 := hide hi; have HZ := hide hz; have HZ1 := hide hz1; have HZ2 := hide hz2
  clear hi hz hz1 hz2
  go_enter Try.func4, Try.ntmps4
  go_wp2_with (first
    | (go_at_call 20; (with_reducible refine (reg26_any _ _).mono ?_); rintro e V ⟨rfl, u, hV⟩; replace HBc := hide (show Below w.heap.size w V by rw [hV]; exact HBc.out.ext HBc.out.size u); clear hV u)
    | (go_at_call 21; (with_reducible refine (slot26_any _ _).mono ?_); rintro e V ⟨rfl, u, hV⟩; replace HBc := hide (show Below w.heap.size w V by rw [hV]; exact HBc.out.ext HBc.out.size u); clear hV u)
    | (go_at_call 22; (with_reducible refine (of26_any _ _ _ _ _).mono ?_); rintro e V ⟨rfl, u, hV⟩; replace HBc := hide (show Below w.heap.size w V by rw [hV]; exact HBc.out.ext HBc.out.size u); clear hV u))
  obtain ⟨gp, hgp⟩ : ∃ g, V.heap.size = g := ⟨_, rfl⟩
  obtain ⟨W1, hW1⟩ : ∃ W, V.alloc (.cells #[.bool false, .int .i64 0, .bool false, .int .i64 1, .bool false, .int .i64 2, .bool true, .int .i64 3, .bool true, .int .i64 4, .bool false, .int .i64 3] 40) = W := ⟨_, rfl⟩
  have HP0 := hide (show Sl W1 (fun _ => True) (some ⟨gp, 0, none⟩) 6 6 ([⟨false, 0⟩, ⟨false, 1⟩, ⟨false, 2⟩, ⟨true, 3⟩, ⟨true, 4⟩, ⟨false, 3⟩] : List Loc) from by
    rw [← hW1]
    exact Sl.lit (us := locV [⟨false, 0⟩, ⟨false, 1⟩, ⟨false, 2⟩, ⟨true, 3⟩, ⟨true, 4⟩, ⟨false, 3⟩]) (S := fun _ => True) hgp.symm (RepL.locs _ (by decide)) rfl (by decide) (fun _ _ => trivial) trivial)
  have HB1 := hide (show Below w.heap.size w W1 by rw [← hW1]; exact HBc.out.alloc HBc.out.size _)
  rw [hW1, hgp]
  clear hW1 hgp HBc
  obtain ⟨bp, op, hAP⟩ : ∃ bp op, (some ⟨gp, 0, none⟩ : Option Addr) = some ⟨bp, op, none⟩ := ⟨_, _, rfl⟩
  obtain ⟨PL, hPL⟩ : ∃ l : List Loc, [⟨false, 0⟩, ⟨false, 1⟩, ⟨false, 2⟩, ⟨true, 3⟩, ⟨true, 4⟩, ⟨false, 3⟩] = l := ⟨_, rfl⟩
  rw [hAP, hPL] at HP0
  rw [hAP]
  clear hAP hPL
  go_wp2_with fail
  go_loopw [2] (fun i wr => ∃ n : Nat, n ≤ 2401 ∧ i = .int .i64 n ∧ Below W1.heap.size W1 wr) (fun i _ => 2401 - (intOf i).toNat)
  case atStart => exact ⟨0, by omega, rfl, Below.refl _ _⟩
  case round =>
    obtain ⟨n, hn, rfl, hbw⟩ := hrel
    have HBw := hide hbw
    clear hbw
    obtain ⟨L, rfl⟩ : ∃ L, L = wr := ⟨_, rfl⟩
    by_cases hlt : n < 2401
    · have hni : (n : Int) < 2401 := by omega
      go_wp2_with fail
      go_loopw [3, 4, 5] (fun v q i wr => ∃ (k j m c : Nat) (A : Option Addr) (xs : List Move), j ≤ 4 ∧ k ≤ 2401 ∧ m ≤ j ∧ i = .int .i64 j ∧ q = .int .i64 k ∧ v = .slice A m c ∧ OwnL wr L.heap.size 42 (fun _ => False) (.slice A m c) xs ∧ Below L.heap.size L wr) (fun _ _ i _ => 4 - (intOf i).toNat)
      case atStart => exact ⟨n, 0, 0, 0, none, [], by omega, by omega, by omega, rfl, rfl, rfl, OwnL.nil_ _ _ _ _, Below.refl _ _⟩
      case round =>
        obtain ⟨k, j, m, c, A, xs, hj, hk, hm, rfl, rfl, rfl, ho, hbw⟩ := hrel
        have HO := hide ho; have HBx := hide hbw
        have hsz := hbw.size
        clear ho hbw
        by_cases hj4 : j < 4
        · have hji : (j : Int) < 4 := by omega
          obtain ⟨k7, hk7⟩ : ∃ q, k % 7 = q := ⟨_, rfl⟩
          have ek7 : (k : Int).tmod 7 = (k7 : Int) := by rw [← hk7]; exact tmodN k 7
          obtain ⟨d7, hd7⟩ : ∃ q, k / 7 = q := ⟨_, rfl⟩
          have ed7 : (k : Int).tdiv 7 = (d7 : Int) := by rw [← hd7]; exact tdivN k 7
          have ld7 : d7 ≤ 2401 := by omega
          have wd7 : IntKind.i64.wrap (d7 : Int) = (d7 : Int) := IntWalk.i64_in _ (by omega)
          clear hd7 hk7
          by_cases h6 : k7 < 6
          · have h6i : (k7 : Int) < 6 := by omega
            obtain ⟨n5, hn5⟩ : ∃ q, n % 5 = q := ⟨_, rfl⟩
            have en5 : (n : Int).tmod 5 = (n5 : Int) := by rw [← hn5]; exact tmodN n 5
            have ln5 : n5 < 5 := by omega
            obtain ⟨s, hs⟩ : ∃ s, j + n5 = s := ⟨_, rfl⟩
            have es : (j : Int) + (n5 : Int) = (s : Int) := by omega
            have ws : IntKind.i64.wrap (s : Int) = (s : Int) := IntWalk.i64_in _ (by omega)
            obtain ⟨s6, hs6⟩ : ∃ q, s % 6 = q := ⟨_, rfl⟩
            have es6 : (s : Int).tmod 6 = (s6 : Int) := by rw [← hs6]; exact tmodN s 6
            have ls6 : s6 < 6 := by omega
            have li6 : (s6 : Int) < 6 := by omega
            clear hn5 hs hs6
            have hpl := (HP0.out.belowAll HBw.out).belowAll HBx.out
            obtain ⟨x, hbx, hix, x0, x1⟩ := at_LocB hpl h6
            obtain ⟨y, hby, hiy, y0, y1⟩ := at_LocB hpl ls6
            have HIX := hide hix; have HIY := hide hiy
            have hol := HO.out.below_
            have HXL := hide (show xs.length = m by obtain ⟨_, _, e⟩ := HO.out.form; injection e with _ e _; exact e.symm)
            clear hpl hix hiy hby
            go_wp2_with fail
            refine wp_region_flowI [15] 16 (by kernel_rfl) rfl (by kernel_rfl) (by kernel_rfl) ?_
            simp only [List.take_succ_cons, List.take_zero, List.drop_succ_cons, List.drop_zero]
            repeat (refine flowI_known (by kernel_rfl) (fun K hK => ?_); go_simp; (first | (refine hK _ ?_; clear hK K) | (apply Exists.intro; refine ⟨fun _ => ?_, hK _ ?_⟩; ((go_at_call 22; exact of26_any _ _ _ _ _)); clear hK K)))
            refine flowI_keep0 (SlIw 1 [(⟨x, y⟩ : Move)]) (by kernel_rfl) (SlIw.stable_ rfl) ?_ ?_
            · intro u
              go_simp
              exact ⟨⟨_, _, rfl, Sl.lit (S := fun _ => False) (us := [.bool x.slot, .int .i64 x.n, .bool y.slot, .int .i64 y.n]) (size_ext ..).symm (RepL.single (Move.mk_ HIX.out HIY.out)) rfl (by decide) (fun _ h => h.elim) ⟨Nat.le_refl _, by simp [size_ext]⟩⟩, onW_alloc rfl ⟨u, rfl⟩⟩
            refine flowI_done [true] rfl ?_
            intro γ u hap
            simp only [List.nil_append, List.cons_append, List.map_cons, List.map_nil, atG, endH_f, endH_t, endH_nil]
            rintro _ ⟨Bs, cs, rfl, hos⟩
            have a15 := hap.1 ⟨15, some 47, SlIw 1 [(⟨x, y⟩ : Move)]⟩ (by simp)
            simp only [Nat.zero_add, Nat.reduceAdd] at hos a15
            generalize (γ 15).1 = lo2 at hos a15
            generalize (γ 15).2 = hi2 at hos a15
            have HS2 := hide hos
            have h2a := a15.1; have h2b := a15.2.2
            clear hap hos a15 x0 x1 y0 y1 hbx
            go_simp
            refine wpList_push_sl (α := Move) (wr.ext u) rfl (.tmp 32) (.tmp 47) 22 rfl L.heap.size 42 i0 _ 32 Try.underlying22 HI0.out HZ.out HZ1.out HZ2.out rfl (by decide) (fun _ => False) (fun b => lo2 ≤ b ∧ b < hi2) (fun b => lo2 ≤ b ∧ b < hi2) (.slice A m c) xs [⟨x, y⟩] rfl (HO.out.ext u) Bs 1 cs rfl HS2.out (fun _ h => h.elim) (fun _ _ h => h) (fun g hg e => by have := (hol g hg).2; omega) (fun b h => by omega) (by rw [HXL.out]; omega) (by rw [HXL.out]; omega) (by rw [size_ext]; omega) ?_
            intro v' w1 hown' hg hrow
            have HBB := hide ((HBx.out.ext hsz u).grown hg (by rw [size_ext]; omega) (fun g e => (hol g e).1))
            obtain ⟨Av, cv, hv⟩ := hown'.form
            subst hv
            rw [List.length_append, HXL.out] at hown' ⊢
            have HOW := hide hown'.moves
            clear hown' hg hrow hol HXL HS2
            go_wp2_with fail
            go_roundw
            case rel => exact ⟨d7, j + 1, m + 1, cv, Av, xs ++ [⟨x, y⟩], by omega, by omega, by omega, by go_num, rfl, rfl, HOW.out, HBB.out⟩
            case measure => simp [intOf]; omega
          · have h6i : decide ((k7 : Int) < 6) = false := by simp; omega
            go_wp2_with fail
            go_roundw
            case rel => exact ⟨d7, j + 1, m, c, A, xs, by omega, by omega, by omega, by go_num, rfl, rfl, HO.out, HBx.out⟩
            case measure => simp [intOf]; omega
        · have hj4e : j = 4 := by omega
          have hjf : decide ((j : Int) < 4) = false := by simp; omega
          have HM2 := hide (fun (V : World) (hb : Below wr.heap.size wr V) (t : Int) (ht : InI t) => HMR.out V (fun _ => True) A m c xs ((HO.out.sl fun _ _ _ => trivial).belowAll hb) t ht)
          have HBc := hide (Below.refl wr.heap.size wr)
          obtain ⟨p50, hp50⟩ : ∃ q, n % 50 = q := ⟨_, rfl⟩
          have e50 : (n : Int).tmod 50 = (p50 : Int) := by rw [← hp50]; exact tmodN n 50
          clear hp50
          by_cases h50 : p50 = 0
          · have z50 : ((p50 : Int) == 0) = true := by rw [beq_iff_eq]; omega
            clear h50
            go_wp2_with (first | (go_at_call 3; (with_reducible refine (HM2.out _ HBc.out 9 (ini_ (k := 9) (by omega))).mono ?_); rintro e V ⟨rfl, u, hV⟩; replace HBc := hide (show Below wr.heap.size wr V by rw [hV]; exact HBc.out.ext HBc.out.size u); clear hV u) | (go_at_call 3; (with_reducible refine (HM2.out _ HBc.out 3 (ini_ (k := 3) (by omega))).mono ?_); rintro e V ⟨rfl, u, hV⟩; replace HBc := hide (show Below wr.heap.size wr V by rw [hV]; exact HBc.out.ext HBc.out.size u); clear hV u))
            go_roundw
            case rel => exact ⟨n + 1, by omega, by go_num, HBw.out.trans ((HBx.out.trans (HBc.out.mono hsz)).mono HBw.out.size)⟩
            case measure => simp [intOf]; omega
          · have z50 : ((p50 : Int) == 0) = false := by rw [beq_eq_false_iff_ne]; omega
            clear h50
            go_wp2_with (first | (go_at_call 3; (with_reducible refine (HM2.out _ HBc.out 9 (ini_ (k := 9) (by omega))).mono ?_); rintro e V ⟨rfl, u, hV⟩; replace HBc := hide (show Below wr.heap.size wr V by rw [hV]; exact HBc.out.ext HBc.out.size u); clear hV u) | (go_at_call 3; (with_reducible refine (HM2.out _ HBc.out 3 (ini_ (k := 3) (by omega))).mono ?_); rintro e V ⟨rfl, u, hV⟩; replace HBc := hide (show Below wr.heap.size wr V by rw [hV]; exact HBc.out.ext HBc.out.size u); clear hV u))
            go_roundw
            case rel => exact ⟨n + 1, by omega, by go_num, HBw.out.trans ((HBx.out.trans (HBc.out.mono hsz)).mono HBw.out.size)⟩
            case measure => simp [intOf]; omega
    · have hlf : decide ((n : Int) < 2401) = false := by simp; omega
      obtain ⟨L0, rfl⟩ : ∃ L0, L0 = L := ⟨_, rfl⟩
      have hn24 : n = 2401 := by omega
      have HB2 := hide (show Below w.heap.size w L0 from HB1.out.trans (HBw.out.mono HB1.out.size))
      clear HBw HB1 HP0 hlt
      go_wp2_with fail
      clear hlf hn24 hn
      go_loopw [6] (fun i wr => ∃ n : Nat, 1 ≤ n ∧ n ≤ 40 ∧ i = .int .i64 n ∧ Below L0.heap.size L0 wr) (fun i _ => 40 - (intOf i).toNat)
      case atStart => exact ⟨1, by omega, by omega, rfl, Below.refl _ _⟩
      case round =>
        obtain ⟨n, hn1, hn, rfl, hbw⟩ := hrel
        have HBw := hide hbw
        clear hbw
        obtain ⟨L, rfl⟩ : ∃ L, L = wr := ⟨_, rfl⟩
        by_cases hlt : n < 40
        · have hni : (n : Int) < 40 := by omega
          go_wp2_with fail
          go_loopw [7, 8] (fun v i wr => ∃ (j m c : Nat) (A : Option Addr) (xs : List Move), j ≤ n ∧ m ≤ j ∧ i = .int .i64 j ∧ v = .slice A m c ∧ OwnL wr L.heap.size 42 (fun _ => False) (.slice A m c) xs ∧ Below L.heap.size L wr) (fun _ i _ => n - (intOf i).toNat)
          case atStart => exact ⟨0, 0, 0, none, [], by omega, by omega, rfl, rfl, OwnL.nil_ _ _ _ _, Below.refl _ _⟩
          case round =>
            obtain ⟨j, m, c, A, xs, hj, hm, rfl, rfl, ho, hbw⟩ := hrel
            have HO := hide ho; have HBx := hide hbw
            have hsz := hbw.size
            clear ho hbw
            have HXL := hide (show xs.length = m by obtain ⟨_, _, e⟩ := HO.out.form; injection e with _ e _; exact e.symm)
            by_cases hjn : j < n
            · have hji : (j : Int) < n := by omega
              obtain ⟨n3, hn3⟩ : ∃ q, n % 3 = q := ⟨_, rfl⟩
              have en3 : (n : Int).tmod 3 = (n3 : Int) := by rw [← hn3]; exact tmodN n 3
              have ln3 : n3 < 3 := by omega
              obtain ⟨j1, hj1⟩ : ∃ s, j + 1 = s := ⟨_, rfl⟩
              have ej1 : (j : Int) + 1 = (j1 : Int) := by omega
              have wj1 : IntKind.i64.wrap (j1 : Int) = (j1 : Int) := IntWalk.i64_in _ (by omega)
              obtain ⟨s, hs⟩ : ∃ s, j1 + n3 = s := ⟨_, rfl⟩
              have es : (j1 : Int) + (n3 : Int) = (s : Int) := by omega
              have ws : IntKind.i64.wrap (s : Int) = (s : Int) := IntWalk.i64_in _ (by omega)
              obtain ⟨sn, hsn⟩ : ∃ q, s % n = q := ⟨_, rfl⟩
              have esn : (s : Int).tmod n = (sn : Int) := by rw [← hsn]; exact tmodN s n
              have lsn : sn < n := by rw [← hsn]; exact Nat.mod_lt _ (by omega)
              have hn0 : ((n : Int) == 0) = false := by rw [beq_eq_false_iff_ne]; omega
              have hn0b : ¬ n = 0 := by omega
              have hol := HO.out.below_
              clear hn3 hs hsn
              go_wp2_with fail
              refine wp_region_flowI [12] 13 (by kernel_rfl) rfl (by kernel_rfl) (by kernel_rfl) ?_
              simp only [List.take_succ_cons, List.take_zero, List.drop_succ_cons, List.drop_zero]
              repeat (refine flowI_known (by kernel_rfl) (fun K hK => ?_); go_simp; (first | (refine hK _ ?_; clear hK K) | (apply Exists.intro; refine ⟨fun _ => ?_, hK _ ?_⟩; (first | (go_at_call 22; exact of26_any _ _ _ _ _) | (go_at_call 20; exact reg26_any _ _)); clear hK K)))
              refine flowI_keep0 (SlIw 1 [(⟨⟨false, j⟩, ⟨false, sn⟩⟩ : Move)]) (by kernel_rfl) (SlIw.stable_ rfl) ?_ ?_
              · intro u
                go_simp
                exact ⟨⟨_, _, rfl, Sl.lit (S := fun _ => False) (us := [.bool false, .int .i64 j, .bool false, .int .i64 sn]) (size_ext ..).symm (RepL.single (Move.mk_ (x := ⟨⟨false, j⟩, ⟨false, sn⟩⟩) (show InI (j : Int) from ini_ (by omega)) (show InI (sn : Int) from ini_ (by omega)))) rfl (by decide) (fun _ h => h.elim) ⟨Nat.le_refl _, by simp [size_ext]⟩⟩, onW_alloc rfl ⟨u, rfl⟩⟩
              refine flowI_done [true] rfl ?_
              intro γ u hap
              simp only [List.nil_append, List.cons_append, List.map_cons, List.map_nil, atG, endH_f, endH_t, endH_nil]
              rintro _ ⟨Bs, cs, rfl, hos⟩
              have a15 := hap.1 ⟨12, some 85, SlIw 1 [(⟨⟨false, j⟩, ⟨false, sn⟩⟩ : Move)]⟩ (by simp)
              simp only [Nat.zero_add, Nat.reduceAdd] at hos a15
              generalize (γ 12).1 = lo2 at hos a15
              generalize (γ 12).2 = hi2 at hos a15
              have HS2 := hide hos
              have h2a := a15.1; have h2b := a15.2.2
              clear hap hos a15
              go_simp
              refine wpList_push_sl (α := Move) (wr.ext u) rfl (.tmp 73) (.tmp 85) 22 rfl L.heap.size 42 i0 _ 32 Try.underlying22 HI0.out HZ.out HZ1.out HZ2.out rfl (by decide) (fun _ => False) (fun b => lo2 ≤ b ∧ b < hi2) (fun b => lo2 ≤ b ∧ b < hi2) (.slice A m c) xs [⟨⟨false, j⟩, ⟨false, sn⟩⟩] rfl (HO.out.ext u) Bs 1 cs rfl HS2.out (fun _ h => h.elim) (fun _ _ h => h) (fun g hg e => by have := (hol g hg).2; omega) (fun b h => by omega) (by rw [HXL.out]; omega) (by rw [HXL.out]; omega) (by rw [size_ext]; omega) ?_
              intro v' w1 hown' hg hrow
              have HBB := hide ((HBx.out.ext hsz u).grown hg (by rw [size_ext]; omega) (fun g e => (hol g e).1))
              obtain ⟨Av, cv, hv⟩ := hown'.form
              subst hv
              rw [List.length_append, HXL.out] at hown' ⊢
              have HOW := hide hown'.moves
              clear hown' hg hrow hol HXL HS2 esn hn0 hn0b es ws ej1
              go_wp2_with fail
              go_roundw
              case rel => exact ⟨j + 1, m + 1, cv, Av, _, by omega, by omega, by go_num, rfl, HOW.out, HBB.out⟩
              case measure => simp [intOf]; omega
            · have hjf : decide ((j : Int) < n) = false := by simp; omega
              obtain ⟨n2, hn2⟩ : ∃ q, n / 2 = q := ⟨_, rfl⟩
              have en2 : (n : Int).tdiv 2 = (n2 : Int) := by rw [← hn2]; exact tdivN n 2
              have ln2 : n2 ≤ 20 := by omega
              have wn2 : IntKind.i64.wrap (n2 : Int) = (n2 : Int) := IntWalk.i64_in _ (by omega)
              clear hn2
              have HBc := hide (Below.refl wr.heap.size wr)
              have HXS := hide (HO.out.sl (S' := fun b => b < wr.heap.size) fun b hb _ => hb)
              obtain ⟨g0, hg0⟩ : ∃ g, wr.heap.size = g := ⟨_, rfl⟩
              go_wp2_with (at_builtin; refine wpList_push_sl (α := Move) (wr.alloc (.cells #[] 42)) rfl (.tmp 87) (.tmp 88) 22 rfl wr.heap.size 42 i0 _ 32 Try.underlying22 HI0.out HZ.out HZ1.out HZ2.out rfl (by decide) (fun _ => False) (fun b => b < wr.heap.size) (fun b => b < wr.heap.size) (.slice (some ⟨g0, 0, none⟩) 0 0) [] xs rfl (OwnL.of_block (xs := ([] : List Move)) (n := 0) (c := 0) (cur := #[]) rfl (Nat.le_refl _) (by unfold maxLen; omega) (by omega) id (by rw [← hg0]; exact heap_alloc_new wr _) rfl rfl) A m c rfl (HXS.out.alloc _) (fun _ h => h.elim) (fun _ _ h => h) (fun q hq e => by simp [Value.ownBlock] at hq; omega) (fun b hb => by simp; omega) (by simp only [List.length_nil]; omega) (by simp only [List.length_nil]; omega) (by simp) ?_; intro vi V1 hoi hgi hri; have HOI := hide hoi; have HGI := hide hgi; clear hoi hgi hri; refine Hd.out ?_)
              have HB0 := hide (show Below wr.heap.size wr V1 from ((Below.refl _ _).alloc (Nat.le_refl _) _).grown HGI.out (by simp) fun r e => by simp [Value.ownBlock] at e; omega)
              obtain ⟨Ai, ci, rfl⟩ := HOI.out.form
              have hxn : ([] ++ xs).length = m := by rw [List.nil_append]; exact HXL.out
              rw [hxn] at HOI ⊢
              clear hxn
              have HV1 := hide (show OwnL V1 wr.heap.size 42 (fun _ => False) (.slice Ai m ci) xs from HOI.out.moves)
              have HVB := hide (fun b hb => ((HV1.out.below_ b hb).2 : b < V1.heap.size))
              have hw1 := HB0.out.size
              clear HBc HOI HGI hg0
              have HBc := hide (Below.refl V1.heap.size V1)
              obtain ⟨n1, hn1'⟩ : ∃ s, n + 1 = s := ⟨_, rfl⟩
              have e1 : (n : Int) + 1 = (n1 : Int) := by omega
              have w1 : IntKind.i64.wrap (n1 : Int) = (n1 : Int) := IntWalk.i64_in _ (by omega)
              obtain ⟨nb, hnb'⟩ : ∃ s, n + 2 = s := ⟨_, rfl⟩
              have e2 : (n : Int) + 2 = (nb : Int) := by omega
              have w2 : IntKind.i64.wrap (nb : Int) = (nb : Int) := IntWalk.i64_in _ (by omega)
              obtain ⟨nc, hnc'⟩ : ∃ s, n + 3 = s := ⟨_, rfl⟩
              have e3 : (n : Int) + 3 = (nc : Int) := by omega
              have w3 : IntKind.i64.wrap (nc : Int) = (nc : Int) := IntWalk.i64_in _ (by omega)
              have HMV := hide (show ∀ x ∈ ([⟨⟨false, n2⟩, ⟨true, 7⟩⟩, ⟨⟨true, 8⟩, ⟨false, n⟩⟩, ⟨⟨false, 0⟩, ⟨false, n1⟩⟩, ⟨⟨false, nb⟩, ⟨false, nc⟩⟩, ⟨⟨false, nc⟩, ⟨false, nb⟩⟩] : List Move), InI x.src.n ∧ InI x.dst.n by
                intro x hx
                simp only [List.mem_cons, List.not_mem_nil, or_false] at hx
                rcases hx with rfl | rfl | rfl | rfl | rfl <;> refine ⟨?_, ?_⟩ <;> dsimp only <;> first | exact ini_ (by omega) | exact ini_ (k := 7) (by omega) | exact ini_ (k := 8) (by omega) | exact ini_ (k := 0) (by omega))
              clear hn1' hnb' hnc'
              refine hide ?_
              go_wp2_with (first
                | (go_at_call 20; (with_reducible refine (reg26_any _ _).mono ?_); rintro e V ⟨rfl, u, hV⟩; replace HBc := hide (show Below V1.heap.size V1 V by rw [hV]; exact HBc.out.ext HBc.out.size u); clear hV u)
                | (go_at_call 21; (with_reducible refine (slot26_any _ _).mono ?_); rintro e V ⟨rfl, u, hV⟩; replace HBc := hide (show Below V1.heap.size V1 V by rw [hV]; exact HBc.out.ext HBc.out.size u); clear hV u)
                | (go_at_call 22; (with_reducible refine (of26_any _ _ _ _ _).mono ?_); rintro e V ⟨rfl, u, hV⟩; replace HBc := hide (show Below V1.heap.size V1 V by rw [hV]; exact HBc.out.ext HBc.out.size u); clear hV u)
                | (at_builtin; refine wpList_push_sl (α := Move) (V.alloc (.cells #[.bool false, .int .i64 n2, .bool true, .int .i64 7, .bool true, .int .i64 8, .bool false, .int .i64 n, .bool false, .int .i64 0, .bool false, .int .i64 n1, .bool false, .int .i64 nb, .bool false, .int .i64 nc, .bool false, .int .i64 nc, .bool false, .int .i64 nb] 42)) rfl (.tmp 89) (.tmp 118) 22 rfl wr.heap.size 42 i0 _ 32 Try.underlying22 HI0.out HZ.out HZ1.out HZ2.out rfl (by decide) (fun _ => False) (fun b => b = V.heap.size) (fun b => b = V.heap.size) (.slice Ai m ci) xs [⟨⟨false, n2⟩, ⟨true, 7⟩⟩, ⟨⟨true, 8⟩, ⟨false, n⟩⟩, ⟨⟨false, 0⟩, ⟨false, n1⟩⟩, ⟨⟨false, nb⟩, ⟨false, nc⟩⟩, ⟨⟨false, nc⟩, ⟨false, nb⟩⟩] rfl ((HV1.out.keep HBc.out.size (fun _ h => h.elim) fun b hb => HBc.out.block b (HVB.out b hb)).alloc _) (some ⟨V.heap.size, 0, none⟩) 5 5 rfl (Sl.lit (us := movV [⟨⟨false, n2⟩, ⟨true, 7⟩⟩, ⟨⟨true, 8⟩, ⟨false, n⟩⟩, ⟨⟨false, 0⟩, ⟨false, n1⟩⟩, ⟨⟨false, nb⟩, ⟨false, nc⟩⟩, ⟨⟨false, nc⟩, ⟨false, nb⟩⟩]) (S := fun _ => False) rfl (RepL.movs _ HMV.out) rfl (by decide) (fun _ h => h.elim) rfl) (fun _ h => h.elim) (fun _ _ h => h) (fun q hq e => by have := HVB.out q hq; have := HBc.out.size; omega) (fun b hb => by simp; omega) (by rw [HXL.out]; omega) (by rw [HXL.out]; omega) (by have := HBc.out.size; simp; omega) ?_; intro vj V2 hoj hgj hrj; have HOJ := hide hoj; have HGJ := hide hgj; have HBV := hide HBc.out.size; clear hoj hgj hrj; refine Hd.out ?_))
              have HB2 := hide (show Below wr.heap.size wr V2 from (((HB0.out.trans (HBc.out.mono hw1)).alloc (by have := HBV.out; omega) _).grown HGJ.out (by have := HBV.out; simp; omega) fun r e => (HV1.out.below_ r e).1))
              obtain ⟨Aj, cj, rfl⟩ := HOJ.out.form
              obtain ⟨FV, hFV⟩ : ∃ l : List Move, [⟨⟨false, n2⟩, ⟨true, 7⟩⟩, ⟨⟨true, 8⟩, ⟨false, n⟩⟩, ⟨⟨false, 0⟩, ⟨false, n1⟩⟩, ⟨⟨false, nb⟩, ⟨false, nc⟩⟩, ⟨⟨false, nc⟩, ⟨false, nb⟩⟩] = l := ⟨_, rfl⟩
              have hFL : FV.length = 5 := by rw [← hFV]; rfl
              rw [hFV] at HOJ ⊢
              rw [List.length_append, HXL.out, hFL] at HOJ ⊢
              clear hFV hFL
              have HV2 := hide (show OwnL V2 wr.heap.size 42 (fun _ => False) _ _ from HOJ.out.moves)
              have HM1 := hide (fun (Y : World) (hb : Below V2.heap.size V2 Y) (t : Int) (ht : InI t) => HMR.out Y (fun _ => True) A m c xs (((HO.out.keep HB2.out.size (fun _ h => h.elim) fun b hb => HB2.out.block b (HO.out.below_ b hb).2).sl fun _ _ _ => trivial).belowAll hb) t ht)
              have HM2 := hide (fun (Y : World) (hb : Below V2.heap.size V2 Y) (t : Int) (ht : InI t) => HMR.out Y (fun _ => True) Aj _ cj _ ((HV2.out.sl fun _ _ _ => trivial).belowAll hb) t ht)
              clear HBc HOJ HGJ HBV HXS HV1 HVB HB0 HMV e1 e2 e3 w1 w2 w3 en2 wn2
              have HBc := hide (Below.refl V2.heap.size V2)
              refine hide ?_
              go_wp2_with (first | (go_at_call 3; (with_reducible refine (HM1.out _ HBc.out 0 (ini_ (k := 0) (by omega))).mono ?_); rintro e V ⟨rfl, u, hV⟩; replace HBc := hide (show Below V2.heap.size V2 V by rw [hV]; exact HBc.out.ext HBc.out.size u); clear hV u) | (go_at_call 3; (with_reducible refine (HM2.out _ HBc.out 399 (ini_ (k := 399) (by omega))).mono ?_); rintro e V ⟨rfl, u, hV⟩; replace HBc := hide (show Below V2.heap.size V2 V by rw [hV]; exact HBc.out.ext HBc.out.size u); clear hV u))
              go_roundw
              case rel => exact ⟨n + 1, by omega, by omega, by go_num, HBw.out.trans ((HBx.out.trans ((HB2.out.trans (HBc.out.mono HB2.out.size)).mono hsz)).mono HBw.out.size)⟩
              case measure => simp [intOf]; omega
        · have hlf : decide ((n : Int) < 40) = false := by simp; omega
          obtain ⟨L1, rfl⟩ : ∃ L1, L1 = L := ⟨_, rfl⟩
          have hn40 : n = 40 := by omega
          have HB3 := hide (show Below w.heap.size w L1 from HB2.out.trans (HBw.out.mono HB2.out.size))
          clear HBw HB2 hlt
          have HBc := hide (Below.refl L1.heap.size L1)
          go_wp2_with (first
    | (go_at_call 20; (with_reducible refine (reg26_any _ _).mono ?_); rintro e V ⟨rfl, u, hV⟩; replace HBc := hide (show Below L1.heap.size L1 V by rw [hV]; exact HBc.out.ext HBc.out.size u); clear hV u)
    | (go_at_call 21; (with_reducible refine (slot26_any _ _).mono ?_); rintro e V ⟨rfl, u, hV⟩; replace HBc := hide (show Below L1.heap.size L1 V by rw [hV]; exact HBc.out.ext HBc.out.size u); clear hV u)
    | (go_at_call 22; (with_reducible refine (of26_any _ _ _ _ _).mono ?_); rintro e V ⟨rfl, u, hV⟩; replace HBc := hide (show Below L1.heap.size L1 V by rw [hV]; exact HBc.out.ext HBc.out.size u); clear hV u))
          clear hlf hn40 hn hn1
          obtain ⟨ge, hge⟩ : ∃ g, V.heap.size = g := ⟨_, rfl⟩
          obtain ⟨W2, hW2⟩ : ∃ W, V.alloc (.cells #[.bool false, .int .i64 (-1), .bool false, .int .i64 0, .bool false, .int .i64 63, .bool false, .int .i64 64, .bool true, .int .i64 (-1), .bool true, .int .i64 0, .bool true, .int .i64 399, .bool true, .int .i64 400, .bool false, .int .i64 (-9223372036854775808), .bool true, .int .i64 9223372036854775807] 40) = W := ⟨_, rfl⟩
          have HP0 := hide (show Sl W2 (fun _ => True) (some ⟨ge, 0, none⟩) 10 10 ([⟨false, -1⟩, ⟨false, 0⟩, ⟨false, 63⟩, ⟨false, 64⟩, ⟨true, -1⟩, ⟨true, 0⟩, ⟨true, 399⟩, ⟨true, 400⟩, ⟨false, -9223372036854775808⟩, ⟨true, 9223372036854775807⟩] : List Loc) from by
            rw [← hW2]
            exact Sl.lit (us := locV [⟨false, -1⟩, ⟨false, 0⟩, ⟨false, 63⟩, ⟨false, 64⟩, ⟨true, -1⟩, ⟨true, 0⟩, ⟨true, 399⟩, ⟨true, 400⟩, ⟨false, -9223372036854775808⟩, ⟨true, 9223372036854775807⟩]) (S := fun _ => True) hge.symm (RepL.locs _ (by decide)) rfl (by decide) (fun _ _ => trivial) trivial)
          have HB4 := hide (show Below w.heap.size w W2 by rw [← hW2]; exact (HB3.out.trans (HBc.out.mono HB3.out.size)).alloc (HB3.out.trans (HBc.out.mono HB3.out.size)).size _)
          rw [hW2, hge]
          clear hW2 hge HBc HB3
          obtain ⟨bp, op, hAP⟩ : ∃ bp op, (some ⟨ge, 0, none⟩ : Option Addr) = some ⟨bp, op, none⟩ := ⟨_, _, rfl⟩
          obtain ⟨PE, hPE⟩ : ∃ l : List Loc, [⟨false, -1⟩, ⟨false, 0⟩, ⟨false, 63⟩, ⟨false, 64⟩, ⟨true, -1⟩, ⟨true, 0⟩, ⟨true, 399⟩, ⟨true, 400⟩, ⟨false, -9223372036854775808⟩, ⟨true, 9223372036854775807⟩] = l := ⟨_, rfl⟩
          rw [hAP, hPE] at HP0
          rw [hAP]
          clear hAP hPE
          go_wp2_with fail
          go_loopw [11] (fun i wr => ∃ n : Nat, n ≤ 100 ∧ i = .int .i64 n ∧ Below W2.heap.size W2 wr) (fun i _ => 100 - (intOf i).toNat)
          case atStart => exact ⟨0, by omega, rfl, Below.refl _ _⟩
          case round =>
            obtain ⟨n, hn, rfl, hbw⟩ := hrel
            have HBw := hide hbw
            clear hbw
            by_cases hlt : n < 100
            · have hni : (n : Int) < 100 := by omega
              obtain ⟨p, hp⟩ : ∃ q, n % 10 = q := ⟨_, rfl⟩
              have ep : (n : Int).tmod 10 = (p : Int) := by rw [← hp]; exact tmodN n 10
              have lp : p < 10 := by omega
              have lpi : (p : Int) < 10 := by omega
              obtain ⟨q, hq⟩ : ∃ q, n / 10 = q := ⟨_, rfl⟩
              have eq : (n : Int).tdiv 10 = (q : Int) := by rw [← hq]; exact tdivN n 10
              have lq : q < 10 := by omega
              have lqi : (q : Int) < 10 := by omega
              have wq : IntKind.i64.wrap (q : Int) = (q : Int) := IntWalk.i64_in _ (by omega)
              clear hp hq
              have hpl := HP0.out.belowAll HBw.out
              have HPL := hide hpl
              obtain ⟨x, hbx, hix, x0, x1⟩ := at_LocB hpl lp
              obtain ⟨y, hby, hiy, y0, y1⟩ := at_LocB hpl lq
              have HIX := hide hix; have HIY := hide hiy
              have h9 : InI 9 := ini_ (k := 9) (by omega)
              have HI5 := hide (show InI 5 from ini_ (k := 5) (by omega)); have HI9 := hide h9
              clear hpl hix hiy hby h9
              go_wp2_with fail
              refine wp_region_flow_ext [] [11, 12] (by kernel_rfl) rfl (by kernel_rfl) ?_
              repeat (refine flow_known (by kernel_rfl) (fun K hK => ?_); go_simp; (first | (refine hK _ ?_; clear hK K) | (apply Exists.intro; refine ⟨fun _ => ?_, hK _ ?_⟩; ((go_at_call 22; exact of26_any _ _ _ _ _)); clear hK K)))
              refine flow_keep0 (FullP 1 [(⟨x, y⟩ : Move)]) (by kernel_rfl) (FullP.stable_ rfl) ?_ ?_
              · intro u
                go_simp
                exact ⟨FullP.lit (S := fun _ => True) rfl (by rw [size_ext]) (RepL.single (Move.mk_ HIX.out HIY.out)) rfl (by omega), onW_alloc rfl ⟨_, rfl⟩⟩
              refine flow_keep [true] (FullP 1 [(⟨x, y⟩ : Move)]) (by kernel_rfl) (FullP.stable_ rfl) ?_ ?_
              · intro u
                try simp only [List.nil_append, List.cons_append, useH_f, useH_t, useH_nil]
                rintro _ ⟨S, b, rfl, hs⟩
                go_simp
                exact ⟨⟨S, b, rfl, hs⟩, onW_same ⟨_, rfl⟩⟩
              refine flow_done [true, true] (by kernel_rfl) ?_
              intro u
              simp only [List.nil_append, List.cons_append, endH_f, endH_t, endH_nil]
              rintro _ - _ ⟨S, bl, rfl, hs⟩
              go_simp
              obtain ⟨X, hX⟩ : ∃ X, wr.ext u = X := ⟨_, rfl⟩
              rw [hX] at hs
              have HBX := hide (show Below W2.heap.size W2 X by rw [← hX]; exact HBw.out.ext HBw.out.size u)
              have HS := hide hs
              have HML := hide (fun (u : Ext) (t : Int) (ht : InI t) => HMR.out (X.ext u) S (some bl) 1 1 [⟨x, y⟩] (HS.out.ext u) t ht)
              have hpl := HP0.out.belowAll HBX.out
              obtain ⟨x', hbx', hix', x0', x1'⟩ := at_LocB hpl lp
              obtain ⟨y', hby', hiy', y0', y1'⟩ := at_LocB hpl lq
              have HIX' := hide hix'; have HIY' := hide hiy'
              rw [hX]
              clear hX hs hpl hix' hiy' hby' x0 x1 y0 y1 hbx HIX HIY HPL
              go_wp2_with fail
              refine wp_region_flow_ext [] [17, 30, 31] (by kernel_rfl) rfl (by kernel_rfl) ?_
              repeat (refine flow_known (by kernel_rfl) (fun K hK => ?_); go_simp; (first | (refine hK _ ?_; clear hK K) | (apply Exists.intro; refine ⟨fun _ => ?_, hK _ ?_⟩; (first | (go_at_call 3; with_reducible exact HML.out _ _ HI5.out) | (go_at_call 3; with_reducible exact HML.out _ _ HIX'.out)); clear hK K)))
              refine flow_keep0 (SlP 2 ([⟨x, y⟩] ++ [⟨x, y⟩] : List Move)) (by kernel_rfl) (SlP.stable_ rfl) ?_ ?_
              · intro u
                refine HeldAt.push_fullG (α := Move) (by rfl) (.tmp 170) (.tmp 171) 22 rfl 42 i0 _ 32 Try.underlying22 HI0.out HZ.out HZ1.out HZ2.out rfl (by decide) S S bl 1 [⟨x, y⟩] [⟨x, y⟩] rfl (HS.out.ext u) (some bl) 1 1 rfl (HS.out.ext u) (by omega) (by omega) (fun x => onW_ext ⟨_, rfl⟩ ⟨x, rfl⟩)
              refine flow_out [true] (.bool true) (by kernel_rfl) ?_ ?_
              · intro u
                try simp only [List.nil_append, List.cons_append, useH_f, useH_t, useH_nil]
                rintro _ ⟨S2, A2, c2, rfl, hs2⟩
                go_simp
                exact HMR.out _ S2 A2 2 c2 _ hs2 5 HI5.out
              repeat (refine flow_known (by kernel_rfl) (fun K hK => ?_); go_simp; (first | (refine hK _ ?_; clear hK K) | (apply Exists.intro; refine ⟨fun _ => ?_, hK _ ?_⟩; (first | (go_at_call 22; exact of26_any _ _ _ _ _) | (go_at_call 20; exact reg26_any _ _)); clear hK K)))
              refine flow_keep0 (FullP 1 [(⟨y', ⟨false, 9⟩⟩ : Move)]) (by kernel_rfl) (FullP.stable_ rfl) ?_ ?_
              · intro u
                go_simp
                exact ⟨FullP.lit (S := fun _ => True) rfl (by rw [size_ext]) (RepL.single (Move.mk_ (x := ⟨y', ⟨false, 9⟩⟩) HIY'.out HI9.out)) rfl (by omega), onW_alloc rfl ⟨_, rfl⟩⟩
              refine flow_keep [false, true] (SlP 2 ([⟨x, y⟩] ++ [⟨y', ⟨false, 9⟩⟩] : List Move)) (by kernel_rfl) (SlP.stable_ rfl) ?_ ?_
              · intro u
                try simp only [List.nil_append, List.cons_append, useH_f, useH_t, useH_nil]
                rintro _ ⟨S3, b3, rfl, hs3⟩
                refine HeldAt.push_fullG (α := Move) (by rfl) (.tmp 177) (.tmp 185) 22 rfl 42 i0 _ 32 Try.underlying22 HI0.out HZ.out HZ1.out HZ2.out rfl (by decide) S S3 bl 1 [⟨x, y⟩] [⟨y', ⟨false, 9⟩⟩] rfl (HS.out.ext u) (some b3) 1 1 rfl hs3 (by omega) (by omega) (fun x => onW_ext ⟨_, rfl⟩ ⟨x, rfl⟩)
              refine flow_out [false, false, true] (.bool true) (by kernel_rfl) ?_ ?_
              · intro u
                try simp only [List.nil_append, List.cons_append, useH_f, useH_t, useH_nil]
                rintro _ ⟨S2, A2, c2, rfl, hs2⟩
                go_simp
                exact HMR.out _ S2 A2 2 c2 _ hs2 5 HI5.out
              repeat (refine flow_known (by kernel_rfl) (fun K hK => ?_); go_simp; (first | (refine hK _ ?_; clear hK K) | (apply Exists.intro; refine ⟨fun _ => ?_, hK _ ?_⟩; (fail); clear hK K)))
              refine flow_done [true, true, true] (by kernel_rfl) ?_
              intro u6
              simp only [List.nil_append, List.cons_append, endH_f, endH_t, endH_nil]
              rintro _ - _ - _ -
              go_simp
              clear x0' x1' y0' y1' hbx' HML HS
              go_wp2_with fail
              go_roundw
              case rel => exact ⟨n + 1, by omega, by go_num, HBX.out.ext HBX.out.size u6⟩
              case measure => simp [intOf]; omega
            · have hlf : decide ((n : Int) < 100) = false := by simp; omega
              have hn100 : n = 100 := by omega
              have HB5 := hide (show Below w.heap.size w wr from HB4.out.trans (HBw.out.mono HB4.out.size))
              have HBc := hide (Below.refl wr.heap.size wr)
              clear HBw HB4 hlt
              go_wp2_with (first | (go_at_call 3; (with_reducible refine (HMN.out _ 0 (ini_ (k := 0) (by omega))).mono ?_); rintro e V ⟨rfl, u, hV⟩; replace HBc := hide (show Below wr.heap.size wr V by rw [hV]; exact HBc.out.ext HBc.out.size u); clear hV u) | (go_at_call 3; (with_reducible refine (HMN.out _ 400 (ini_ (k := 400) (by omega))).mono ?_); rintro e V ⟨rfl, u, hV⟩; replace HBc := hide (show Below wr.heap.size wr V by rw [hV]; exact HBc.out.ext HBc.out.size u); clear hV u) | (go_at_call 7; (with_reducible refine (HAW.out _).mono ?_); rintro e V ⟨rfl, u, hV⟩; replace HBc := hide (show Below wr.heap.size wr V by rw [hV]; exact HBc.out.ext HBc.out.size u); clear hV u))
              go_ret
              exact RetX.b rfl (HB5.out.trans (HBc.out.mono HB5.out.size))
end Go.Proofs.Ytoghikagooegbaa
