/- Walks: how great targets are. -/
import Derived.Test.YtahblhiolkdnnaaK0
set_option linter.unusedSimpArgs false
set_option linter.unusedVariables false
namespace Go.Proofs.Ytahblhiolkdnnaa
open Go.RowKit


theorem size6_any (w : World) (S : Nat → Prop) (t : Target) (A : Option Addr) (n c : Nat) (h : Sl w S A n c t.blocks) (hm : SmallT 1048576 t.blocks) :
    Calls Try.prog 18 #[.agg #[.int .i64 t.frame, .slice A n c]] w (RetX (.int .i64 (sizeT n t.blocks)) w) := by
  have HL := hide h.len
  have hn : n ≤ 1048576 := by rw [← h.len]; exact hm.1
  have HM := hide hm; clear hm
  have HS := hide h; clear h
  go_enter Try.func18, Try.ntmps18
  go_wp2
  go_loopw [3, 4] (fun a i wr => ∃ k : Nat, ∃ acc : Int, k ≤ n ∧ i = .int .i64 k ∧ a = .int .i64 acc ∧ 0 ≤ acc ∧ acc ≤ n + k * 1048576 ∧ sizeT n t.blocks = sizeT acc (t.blocks.drop k) ∧ ∃ u, wr = (w.alloc (.cells #[.int .i64 t.frame, .slice A n c] 27)).ext u) (fun _ i _ => n - (intOf i).toNat)
  case atStart => exact ⟨0, n, Nat.zero_le _, rfl, rfl, by omega, by omega, rfl, ext_refl _⟩
  case round =>
    obtain ⟨k, acc, hk, rfl, rfl, ha0, ha1, hr, u, rfl⟩ := hrel
    have HR := hide hr; clear hr
    by_cases hlt : k < n
    · obtain ⟨b, off, x, A1, n1, c1, rfl, hb, hx, hins, -, -, -, -, c1, -, -, -, -⟩ := at_Block HS.out hlt
      have hn1 : n1 ≤ 1048576 := by rw [← hins.len]; exact (HM.out.2 x (mem_at hx)).1
      have HN := hide hins.len
      have HX := hide (drop_at hx); clear hx
      have HI := hide hins; clear hins
      go_wp2
      go_roundw
      case rel => exact ⟨k + 1, acc + n1, by omega, by go_num, rfl, by omega, by omega, by rw [HR.out, HX.out]; simp [sizeT, HN.out], Below.to_ext (by repeat (first | exact Below.refl _ _ | assumption | refine Below.alloc ?_ (by simp [size_ext]; try omega) _ | refine Below.ext ?_ (by simp [size_ext]; try omega) _ | refine Below.drew ?_ | refine Below.setCell ?_ (by simp [size_ext]; try omega) _))⟩
      case measure => simp [intOf]; omega
    · go_wp2
      go_ret
      exact RetX.i (by rw [HR.out, drop_end HL.out hlt]; rfl) (by repeat (first | exact Below.refl _ _ | assumption | refine Below.alloc ?_ (by simp [size_ext]; try omega) _ | refine Below.ext ?_ (by simp [size_ext]; try omega) _ | refine Below.drew ?_ | refine Below.setCell ?_ (by simp [size_ext]; try omega) _))
theorem size_any (w : World) (S : Nat → Prop) (t : Target) (A : Option Addr) (n c : Nat) (h : Sl w S A n c t.blocks) (hm : SmallT 1048576 t.blocks) :
    Calls Try.prog 17 #[.agg #[.int .i64 t.frame, .slice A n c]] w (RetX (.int .i64 (sizeT n t.blocks)) w) := by
  have HL := hide h.len
  have hn : n ≤ 1048576 := by rw [← h.len]; exact hm.1
  have HM := hide hm; clear hm
  have HS := hide h; clear h
  go_enter Try.func17, Try.ntmps17
  go_wp2
  go_loopw [3, 12] (fun a i wr => ∃ k : Nat, ∃ acc : Int, k ≤ n ∧ i = .int .i64 k ∧ a = .int .i64 acc ∧ 0 ≤ acc ∧ acc ≤ n + k * 1048576 ∧ sizeT n t.blocks = sizeT acc (t.blocks.drop k) ∧ ∃ u, wr = (w.alloc (.cells #[.int .i64 t.frame, .slice A n c] 27)).ext u) (fun _ i _ => n - (intOf i).toNat)
  case atStart => exact ⟨0, n, Nat.zero_le _, rfl, rfl, by omega, by omega, rfl, ext_refl _⟩
  case round =>
    obtain ⟨k, acc, hk, rfl, rfl, ha0, ha1, hr, u, rfl⟩ := hrel
    have HR := hide hr; clear hr
    by_cases hlt : k < n
    · obtain ⟨b, off, x, A1, n1, c1, rfl, hb, hx, hins, -, -, -, -, c0, c1, c2, c3, c4⟩ := at_Block HS.out hlt
      have hn1 : n1 ≤ 1048576 := by rw [← hins.len]; exact (HM.out.2 x (mem_at hx)).1
      have HN := hide hins.len
      have HX := hide (drop_at hx); clear hx
      have HI := hide hins; clear hins
      go_wp2
      go_roundw
      case rel => exact ⟨k + 1, acc + n1, by omega, by go_num, rfl, by omega, by omega, by rw [HR.out, HX.out]; simp [sizeT, HN.out], Below.to_ext (by repeat (first | exact Below.refl _ _ | assumption | refine Below.alloc ?_ (by simp [size_ext]; try omega) _ | refine Below.ext ?_ (by simp [size_ext]; try omega) _ | refine Below.drew ?_ | refine Below.setCell ?_ (by simp [size_ext]; try omega) _))⟩
      case measure => simp [intOf]; omega
    · go_wp2
      go_ret
      exact RetX.i (by rw [HR.out, drop_end HL.out hlt]; rfl) (by repeat (first | exact Below.refl _ _ | assumption | refine Below.alloc ?_ (by simp [size_ext]; try omega) _ | refine Below.ext ?_ (by simp [size_ext]; try omega) _ | refine Below.drew ?_ | refine Below.setCell ?_ (by simp [size_ext]; try omega) _))
theorem argsOf_le (most : Int) (M : Nat) : ∀ (l : List Ins) (n : Int), (∀ i ∈ l, i.args.length ≤ M) → n ≤ argsOf most n l ∧ argsOf most n l ≤ max n (most + M) := by
  intro l
  induction l with
  | nil => intro n _; simp [argsOf]; omega
  | cons i l ih =>
    intro n h
    simp only [argsOf]
    split
    · have := ih (n + i.args.length) (fun j hj => h j (by simp [hj]))
      have h1 := h i (by simp)
      omega
    · omega
theorem blocksOf_any (w : World) (S : Nat → Prop) (l : List Block) (most : Int) (A : Option Addr) (n c : Nat) (h : Sl w S A n c l) (hm : SmallT 1048576 l) (hmost : 0 ≤ most ∧ most ≤ 1048576) :
    Calls Try.prog 33 #[.slice A n c, .int .i64 most] w (Ret (.int .i64 (blocksOf most 0 l)) w) := by
  obtain ⟨m0, m1⟩ := hmost
  have HL := hide h.len
  have hn : n ≤ 1048576 := by rw [← h.len]; exact hm.1
  have HM := hide hm; clear hm
  have HS := hide h; clear h
  go_enter Try.func33, Try.ntmps33
  go_wp2
  go_loop [5, 6] (fun a i => ∃ k : Nat, ∃ acc : Int, k ≤ n ∧ i = .int .i64 k ∧ a = .int .i64 acc ∧ 0 ≤ acc ∧ acc ≤ 4000000 ∧ blocksOf most 0 l = blocksOf most acc (l.drop k)) (fun _ i => n - (intOf i).toNat)
  case atStart => exact ⟨0, 0, Nat.zero_le _, rfl, rfl, by omega, by omega, rfl⟩
  case round =>
    obtain ⟨k, acc, hk, rfl, rfl, ha0, ha1, hr⟩ := hrel
    have HR := hide hr; clear hr
    by_cases hlt : k < n
    · obtain ⟨b, off, x, A1, n1, c1, rfl, hb, hx, hins, -, -, -, -, c0, -, -, -, -⟩ := at_Block HS.out hlt
      have hsb := HM.out.2 x (mem_at hx)
      have hn1 : n1 ≤ 1048576 := by rw [← hins.len]; exact hsb.1
      have HN := hide hins.len
      have HX := hide (drop_at hx); clear hx
      have HI := hide hins; clear hins
      have HSB := hide hsb; clear hsb
      by_cases hle : acc ≤ most
      · go_wp2
        go_loop [5, 7] (fun a i => ∃ j : Nat, ∃ ac : Int, j ≤ n1 ∧ i = .int .i64 j ∧ a = .int .i64 ac ∧ 0 ≤ ac ∧ ac ≤ 4000000 ∧ argsOf most (acc + 1 + n1) x.ins = argsOf most ac (x.ins.drop j)) (fun _ i => n1 - (intOf i).toNat)
        case atStart => exact ⟨0, acc + 1 + n1, Nat.zero_le _, rfl, rfl, by omega, by omega, rfl⟩
        case round =>
          obtain ⟨j, ac, hj, rfl, rfl, hac0, hac1, hr'⟩ := hrel
          have HR' := hide hr'; clear hr'
          by_cases hjt : j < n1
          · obtain ⟨b', off', y, A2, n2, c2, rfl, hb', hy, -, -, -, -, -, -, hargs, -, -, -, -, -, -, -, d6, -⟩ := at_Ins HI.out hjt
            have hn2 : n2 ≤ 1048576 := by rw [← hargs.len]; exact HSB.out.2 y (mem_at hy)
            have HN2 := hide hargs.len
            have HY := hide (drop_at hy); clear hy hargs
            by_cases hle' : ac ≤ most
            · go_wp2
              go_round
              case rel => exact ⟨j + 1, ac + n2, by omega, by go_num, rfl, by omega, by omega, by rw [HR'.out, HY.out]; simp only [argsOf, if_pos hle', HN2.out]⟩
              case measure => simp [intOf]; omega
            · have hd : decide (ac ≤ most) = false := by simpa using hle'
              go_wp2
              go_round
              case rel => exact ⟨k + 1, ac, by omega, by go_num, rfl, by omega, by omega, by rw [HR.out, HX.out]; simp only [blocksOf, if_pos hle, HN.out]; rw [HR'.out, HY.out]; simp only [argsOf, if_neg hle']⟩
              case measure => simp [intOf]; omega
          · go_wp2
            go_round
            case rel => exact ⟨k + 1, ac, by omega, by go_num, rfl, by omega, by omega, by rw [HR.out, HX.out]; simp only [blocksOf, if_pos hle, HN.out]; rw [HR'.out, drop_end HN.out hjt]; rfl⟩
            case measure => simp [intOf]; omega
      · have hd : decide (acc ≤ most) = false := by simpa using hle
        go_wp2
        go_ret
        exact Ret.i (by rw [HR.out, HX.out]; simp only [blocksOf]; rw [if_neg (by omega)])
    · go_wp2
      go_ret
      exact Ret.i (by rw [HR.out, drop_end HL.out hlt]; rfl)
end Go.Proofs.Ytahblhiolkdnnaa
