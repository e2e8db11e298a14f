/- The document's value, numbers: the walks. -/
import Derived.Test.YtmlopggainkoiaaDoorRF3
import Derived.Test.YtmlopggainkoiaaDoorLX5
set_option linter.unusedSimpArgs false
set_option linter.unusedVariables false
namespace Go.Proofs.YtmlopggainkoiaaDoor
open Go.RowKit

def RetVal (p : Int × Bool) (w : World) (e : Ending) (w' : World) : Prop := e = .returned (.tuple #[.int .i64 p.1, .bool p.2]) ∧ w = w'
set_option maxRecDepth 100000 in
set_option maxHeartbeats 4000000 in
theorem value_any (s : ByteArray) (w : World) (hs : s.size ≤ 17179869184) (h0 : 0 < s.size) (hb : ∀ c ∈ s.data.toList, c = 45 ∨ (48 ≤ c.toNat ∧ c.toNat ≤ 57)) : Calls Tryd.prog 51 #[.string s] w (RetVal (valW s.data.toList) w) := by
  have HB := hide hb; clear hb
  go_enter Tryd.func51, Tryd.ntmps51
  go_wp2_with fail
  go_loop [4, 5] (fun a b => ∃ (k acc : Nat), a = .int .i64 acc ∧ b = .int .i64 k ∧ k ≤ s.size ∧ acc ≤ 1099511627776 ∧ valF 0 s.data.toList = valF acc (s.data.toList.drop k)) (fun _ b => s.size - (intOf b).toNat)
  case atStart => exact ⟨0, 0, rfl, rfl, Nat.zero_le _, by omega, rfl⟩
  case round =>
    obtain ⟨k, acc, rfl, rfl, hk, ha, hv⟩ := hrel
    have HV := hide hv; clear hv
    by_cases hp : k < s.size
    · have hx := congrArg UInt8.toNat (get_elem hp)
      have HD := hide (drop_get hp)
      have hmem : s.get! k ∈ s.data.toList := List.mem_of_mem_drop (i := k) (by rw [HD.out]; simp)
      have hm : s.get! k = 45 ∨ (48 ≤ (s.get! k).toNat ∧ (s.get! k).toNat ≤ 57) := HB.out _ hmem
      clear hmem
      have h45 := @toNat_eq (s.get! k) 45 (by decide)
      have HN := hide (show valF acc (s.get! k :: s.data.toList.drop (k + 1)) = if s.get! k = 45 then valF acc (s.data.toList.drop (k + 1)) else if 1099511627776 < 10 * acc + ((s.get! k).toNat - 48) then none else valF (10 * acc + ((s.get! k).toNat - 48)) (s.data.toList.drop (k + 1)) from rfl)
      have e45 : (45 : UInt8) = UInt8.ofNat 45 := rfl
      rw [← e45] at h45
      obtain ⟨x, hxx⟩ : ∃ x, (s.get! k).toNat = x := ⟨_, rfl⟩
      rw [hxx] at hx hm h45 HN
      clear hxx
      have H45 := hide h45; clear h45 e45
      by_cases he : x = 45
      · have HE := hide (H45.out.2 he)
        subst he
        clear hm
        go_wp2_with fail
        go_round
        case rel => exact ⟨k + 1, acc, rfl, by go_num, by omega, ha, by rw [HV.out, HD.out, HN.out, if_pos HE.out]⟩
        case measure => simp [intOf]; omega
      · have hne : s.get! k ≠ 45 := fun h => he (H45.out.1 h)
        have h48 : 48 ≤ x ∧ x ≤ 57 := by rcases hm with h | h; exact absurd h hne; exact h
        have HNE := hide hne
        obtain ⟨x1, x2⟩ := h48
        have heq : ((x : Int) == 45) = false := by simp; omega
        clear hm hne he
        by_cases hbig : 1099511627776 < 10 * acc + (x - 48)
        · have hbig' : (1099511627776 : Int) < 10 * (acc : Int) + ((x : Int) - 48) := by omega
          go_wp2_with fail
          go_ret2
          have e : valW s.data.toList = (0, false) := by unfold valW; rw [HV.out, HD.out, HN.out, if_neg HNE.out, if_pos hbig]
          rw [e]
          exact ⟨rfl, rfl⟩
        · have hbig' : ¬ (1099511627776 : Int) < 10 * (acc : Int) + ((x : Int) - 48) := by omega
          go_wp2_with fail
          go_round
          case rel => exact ⟨k + 1, 10 * acc + (x - 48), by congr 1; omega, by go_num, by omega, by omega, by rw [HV.out, HD.out, HN.out, if_neg HNE.out, if_neg hbig]⟩
          case measure => simp [intOf]; omega
    · have HV' := hide (show valF 0 s.data.toList = some acc by rw [HV.out, List.drop_eq_nil_of_le (by have := size_list s; omega)]; rfl)
      have hx := congrArg UInt8.toNat (get_elem h0)
      have hh : s.data.toList.head? = some (s.get! 0) := by
        have := drop_get h0
        rw [List.drop_zero] at this
        rw [this]; rfl
      have h45 := @toNat_eq (s.get! 0) 45 (by decide)
      have e45 : (45 : UInt8) = UInt8.ofNat 45 := rfl
      rw [← e45] at h45
      have HH := hide (show valW s.data.toList = (if (s.get! 0).toNat = 45 then -(acc : Int) else acc, true) by
        unfold valW
        rw [HV'.out, hh]
        simp only
        by_cases h : s.get! 0 = 45
        · rw [if_pos (by rw [h]), if_pos (h45.1 h)]
        · rw [if_neg (by simpa using h), if_neg (fun e => h (h45.2 e))])
      obtain ⟨x, hxx⟩ : ∃ x, (s.get! 0).toNat = x := ⟨_, rfl⟩
      rw [hxx] at hx HH
      clear hxx h45 hh e45
      by_cases he : x = 45
      · subst he
        go_wp2_with fail
        go_ret2
        refine ⟨?_, rfl⟩
        rw [HH.out]; rfl
      · have heq : ((x : Int) == 45) = false := by simp; omega
        have HNE := hide he
        clear he
        go_wp2_with fail
        go_ret2
        refine ⟨?_, rfl⟩
        rw [HH.out, if_neg HNE.out]; rfl
/-! ### numbers -/
theorem byte_head {s : ByteArray} {i : Nat} (h : i < s.size) (hb : (s.get! i).toNat < 128) : items s i = (((s.get! i).toNat : Nat) : Int) :: items s (i + 1) := by
  have hg : goodAt s i = true := by unfold goodAt; simp [hb]
  have hd : Utf8.decode s i = ((s.get! i).toNat, 1) := by rw [Lib.decode_at]; unfold Lib.decodeN; rw [if_pos hb]
  have := items_good h hg
  rw [hd] at this
  exact this
theorem head_45 {s : ByteArray} {i : Nat} (h : i < s.size) (hb : (s.get! i).toNat ≠ 45) {c : Int} {l : List Int} (hi : items s i = c :: l) : c ≠ 45 := by
  intro hc
  subst hc
  obtain ⟨_, _, h1, _⟩ := items_head hi (by decide)
  rcases decodeN_cases (s.size - i) _ _ _ _ (byte_lt (s.get! i)) (byte_lt (s.get! (i + 1))) (byte_lt (s.get! (i + 2))) (byte_lt (s.get! (i + 3))) (Utf8.decode s i) (Lib.decode_at s i).symm with ⟨a, e⟩ | ⟨a, e, no⟩ | ⟨a, b, c, d, _⟩ | ⟨a, b, c, d, _, _, _, f, _⟩ | ⟨a, b, c, d, _⟩
  · rw [e] at h1; simp only at h1; omega
  · rw [e] at h1; simp only at h1; omega
  · omega
  · omega
  · omega
theorem runT_asc (s : ByteArray) (i : Nat) : Asc (runT true s i) := fun x hx => by
  have := isD_iff.1 (runT_all true s i x hx); omega
theorem runT_size (s : ByteArray) (i : Nat) : (runesBytes (runT true s i)).size = (runT true s i).length := asc_size _ (runT_asc s i)
theorem items_ne {s : ByteArray} {i : Nat} (h : i < s.size) : ∃ c l, items s i = c :: l := by
  cases hg : goodAt s i with
  | true => exact ⟨_, _, items_good h hg⟩
  | false => exact ⟨_, _, items_bad h hg⟩
theorem numLen_eq {s : ByteArray} {i : Nat} (h : i < s.size) : numLen (items s i) = if (s.get! i).toNat = 45 then (if (runT true s (i + 1)).length = 0 then 0 else (runT true s (i + 1)).length + 1) else (runT true s i).length := by
  by_cases hb : (s.get! i).toNat = 45
  · rw [if_pos hb, byte_head h (by omega), hb]
    show numLen (45 :: items s (i + 1)) = _
    rw [numLen_cons, if_pos rfl]; rfl
  · rw [if_neg hb]
    obtain ⟨c, l, hi⟩ := items_ne h
    have hc := head_45 h hb hi
    have e : runT true s i = (c :: l).takeWhile isD := by unfold runT; rw [hi]; rfl
    rw [hi, numLen_cons, if_neg hc, e]
set_option maxRecDepth 100000 in
set_option maxHeartbeats 4000000 in
theorem numbers_any (s : ByteArray) (i : Nat) (w : World) (hs : s.size ≤ 17179869184) (hi : i < s.size) : Calls Tryd.prog 50 #[.string s, .int .i64 i] w (Ret (.int .i64 (numLen (items s i) : Nat)) w) := by
  have hx := congrArg UInt8.toNat (get_elem hi)
  have HN := hide (numLen_eq hi)
  obtain ⟨x, hxx⟩ : ∃ x, (s.get! i).toNat = x := ⟨_, rfl⟩
  rw [hxx] at hx HN
  clear hxx
  by_cases he : x = 45
  · subst he
    have HR := hide (show Calls Tryd.prog 52 #[.string s, .int .i64 ((i : Int) + 1), .bool true] w (RetRun (runT true s (i + 1)) w) from run_any true s (i + 1) w hs (by omega))
    have HS := hide (runT_size s (i + 1))
    unfold RetRun at HR
    rw [HS.out] at HR
    have HLE := hide (show (runT true s (i + 1)).length ≤ s.size by
      obtain ⟨_, h2, _⟩ := items_seg (runT true s (i + 1)) (i + 1) _ (runT_rest true s (i + 1)) (fun x hx => PB_pos (runT_all true s (i + 1) x hx)) (by omega)
      rw [HS.out] at h2; omega)
    generalize (runT true s (i + 1)).length = m at HR HN HLE
    clear HS
    cases hm : ((m : Int) == 0)
    · have HM := hide (show ¬ m = 0 by simp at hm; omega)
      have hle := HLE.out
      go_enter Tryd.func50, Tryd.ntmps50
      go_wp2_with (go_at_call 52; refine HR.out.mono ?_; rintro e w' ⟨rfl, rfl⟩)
      go_ret
      refine Ret.i ?_
      rw [HN.out, if_pos (by trivial), if_neg HM.out]; omega
    · have HM := hide (show m = 0 by simp at hm; omega)
      have hle := HLE.out
      go_enter Tryd.func50, Tryd.ntmps50
      go_wp2_with (go_at_call 52; refine HR.out.mono ?_; rintro e w' ⟨rfl, rfl⟩)
      go_ret
      refine Ret.i ?_
      rw [HN.out, if_pos (by trivial), if_pos HM.out]; rfl
  · have HR := hide (run_any true s i w hs (by omega))
    have HS := hide (runT_size s i)
    unfold RetRun at HR
    rw [HS.out] at HR
    have HLE := hide (show (runT true s i).length ≤ s.size by
      obtain ⟨_, h2, _⟩ := items_seg (runT true s i) i _ (runT_rest true s i) (fun x hx => PB_pos (runT_all true s i x hx)) (by omega)
      rw [HS.out] at h2; omega)
    rw [if_neg he] at HN
    generalize (runT true s i).length = m at HR HN HLE
    clear HS
    have heq : ((x : Int) == 45) = false := by simp; omega
    clear he
    cases hm : ((m : Int) == 0)
    · have hle := HLE.out
      go_enter Tryd.func50, Tryd.ntmps50
      go_wp2_with (go_at_call 52; refine HR.out.mono ?_; rintro e w' ⟨rfl, rfl⟩)
      go_ret
      refine Ret.i ?_
      rw [HN.out]; try omega
    · have HM := hide (show m = 0 by simp at hm; omega)
      have hle := HLE.out
      go_enter Tryd.func50, Tryd.ntmps50
      go_wp2_with (go_at_call 52; refine HR.out.mono ?_; rintro e w' ⟨rfl, rfl⟩)
      go_ret
      refine Ret.i ?_
      rw [HN.out, HM.out]; rfl
end Go.Proofs.YtmlopggainkoiaaDoor
