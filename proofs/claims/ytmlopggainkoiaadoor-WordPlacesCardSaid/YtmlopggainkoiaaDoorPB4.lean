/- law01: alike, odd: the walks. -/
import Derived.Test.YtmlopggainkoiaaDoorPB3
import Derived.BigGuardPart
set_option linter.unusedSimpArgs false
set_option linter.unusedVariables false
namespace Go.Proofs.YtmlopggainkoiaaDoor
open Go.RowKit

theorem core_at {xs ys : List Word} (h : xs.map core = ys.map core) {k : Nat} {x y : Word} (hx : xs[k]? = some x) (hy : ys[k]? = some y) : x.kind = y.kind ∧ x.text = y.text ∧ x.n = y.n := by
  have := congrArg (fun l => l[k]?) h
  simp only [List.getElem?_map, hx, hy, Option.map_some, Option.some.injEq] at this
  unfold core at this
  simp only [Prod.mk.injEq] at this
  exact this
theorem core_len {xs ys : List Word} (h : xs.map core = ys.map core) : xs.length = ys.length := by have := congrArg List.length h; simpa using this

set_option maxRecDepth 100000 in
set_option maxHeartbeats 8000000 in
theorem alike_eq (w : World) (S S' : Nat → Prop) (A A' : Option Addr) (n c n' c' : Nat) (xs ys : List Word) (h : Sl w S A n c xs) (h' : Sl w S' A' n' c' ys) (he : xs.map core = ys.map core) : Calls Tryd.prog 14 #[.slice A n c, .slice A' n' c'] w (RetX (.bool true) w) := by
  have hnn : n' = n := by rw [← h'.len, ← h.len]; exact (core_len he).symm
  subst hnn
  have hn := h.nle
  have HS := hide h; have HS' := hide h'; have HE := hide he
  clear h h' he
  go_enter Tryd.func14, Tryd.ntmps14
  go_wp2_with fail
  go_loopw [5] (fun i wr => ∃ k : Nat, k ≤ n' ∧ i = .int .i64 k ∧ ∃ u : Ext, wr = w.ext u) (fun i _ => n' - (intOf i).toNat)
  case atStart => exact ⟨0, Nat.zero_le _, rfl, ext_refl w⟩
  case round =>
    obtain ⟨k, hk, rfl, u0, rfl⟩ := hrel
    by_cases hlt : k < n'
    · obtain ⟨b, off, x, rfl, hb, hx, _, _, _, _, _, c0, c1, c2, _, _⟩ := at_Word HS.out hlt
      obtain ⟨b', off', x', rfl, hb', hx', _, _, _, _, _, d0, d1, d2, _, _⟩ := at_Word HS'.out hlt
      obtain ⟨e0, e1, e2⟩ := core_at HE.out hx hx'
      rw [← e0] at d0; rw [← e1] at d1; rw [← e2] at d2
      clear hx hx' e0 e1 e2
      go_wp2_with fail
      refine wp_region_ext (by kernel_rfl) (by kernel_rfl) ?_
      repeat (any_goals (first | go_big_quiet_step ((fail)) | quiet_step ((fail))))
      refine wpQuiet_nil ?_
      rintro _ ⟨uq, rfl⟩
      go_wp2_with fail
      go_roundw
      case rel => exact ⟨k + 1, by omega, by go_num, by obtain ⟨y, hy⟩ := ext_ext w u0 uq; exact ⟨y, hy⟩⟩
      case measure => simp [intOf]; omega
    · go_wp2_with fail
      go_ret
      exact ⟨rfl, u0, rfl⟩

theorem u8_at (tx : ByteArray) (i : Nat) (c : UInt8) (n : Int) (h : i < tx.size) (hc : (c.toNat : Int) = n) : (tx.get! i == c) = ((tx[i].toNat : Int) == n) := by
  have e : tx.get! i = tx[i] := by
    show tx.data[i]! = tx.data[i]
    exact getElem!_pos tx.data i h
  rw [e, ← hc, Bool.eq_iff_iff, beq_iff_eq, beq_iff_eq]
  exact ⟨fun h => by rw [h], fun h => UInt8.toNat_inj.1 (by omega)⟩
set_option maxRecDepth 100000 in
set_option maxHeartbeats 8000000 in
theorem odd_any (w : World) (S : Nat → Prop) (A : Option Addr) (n c : Nat) (xs : List Word) (h : Sl w S A n c xs) (ho : xs.any oddW = true) : Calls Tryd.prog 27 #[.slice A n c] w (Ret (.bool true) w) := by
  have hn := h.nle
  have HS := hide h; have HO := hide ho
  clear h ho
  go_enter Tryd.func27, Tryd.ntmps27
  go_wp2_with fail
  go_loop [3] (fun a => ∃ (k : Nat), a = .int .i64 k ∧ k ≤ n ∧ (xs.drop k).any oddW = true) (fun a => n - (intOf a).toNat)
  case atStart => exact ⟨0, rfl, Nat.zero_le _, HO.out⟩
  case round =>
    obtain ⟨k, rfl, hk, hd⟩ := hrel
    have HD := hide hd
    clear hd
    by_cases hlt : k < n
    · obtain ⟨b, off, x, rfl, hb, hx, i0, i1, i2, i3, i4, c0, c1, c2, c3, c4⟩ := at_Word HS.out hlt
      have HN := hide (show oddW x = false → (xs.drop (k + 1)).any oddW = true from fun h => by have := HD.out; rw [drop_at hx, List.any_cons, h, Bool.false_or] at this; exact this)
      obtain ⟨kd, tx, nn, ln, cl⟩ := x
      simp only at i0 i1 i2 i3 i4 c0 c1 c2 c3 c4
      unfold oddW at HN
      simp only at HN
      clear hx i0 i2 i3 i4 HD
      by_cases hkd : ¬ kd = 2
      · have HF := hide (HN.out (by simp [hkd]))
        go_wp2_with fail
        go_round
        case rel => exact ⟨k + 1, by go_num, by omega, HF.out⟩
        case measure => simp [intOf]; omega
      · obtain rfl : kd = 2 := Classical.not_not.1 hkd
        rw [show ((2 : Int) == 2) = true from rfl] at HN
        clear hkd
        by_cases hs : 1 < tx.size
        · have hs0 : 0 < tx.size := by omega
          rw [u8_at tx 0 48 48 hs0 rfl, u8_at tx 0 45 45 hs0 rfl, u8_at tx 1 48 48 hs rfl] at HN
          have hd1 : decide (1 < tx.size) = true := by simp [hs]
          rw [hd1] at HN
          clear hd1
          have hsI : (1 : Int) < (tx.size : Int) := by omega
          by_cases h0 : (tx[0].toNat : Int) = 48
          · clear HN
            go_wp2_with fail
            go_ret
            exact ⟨rfl, rfl⟩
          · by_cases h1 : (tx[0].toNat : Int) = 45
            · by_cases h2 : (tx[1].toNat : Int) = 48
              · clear HN
                go_wp2_with fail
                go_ret
                exact ⟨rfl, rfl⟩
              · have HF := hide (HN.out (by simp [h0, h1, h2]))
                go_wp2_with fail
                go_round
                case rel => exact ⟨k + 1, by go_num, by omega, HF.out⟩
                case measure => simp [intOf]; omega
            · have HF := hide (HN.out (by simp [h0, h1]))
              go_wp2_with fail
              go_round
              case rel => exact ⟨k + 1, by go_num, by omega, HF.out⟩
              case measure => simp [intOf]; omega
        · go_wp2_with fail
          go_round
          case rel => exact ⟨k + 1, by go_num, by omega, HN.out (by simp [hs])⟩
          case measure => simp [intOf]; omega
    · exfalso
      have := HD.out
      rw [drop_end HS.out.len hlt] at this
      exact absurd this (by decide)
end Go.Proofs.YtmlopggainkoiaaDoor
