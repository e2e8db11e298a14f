/- The document's run, numbers. -/
import Derived.Test.YtmlopggainkoiaaDoorRF2
import Derived.Test.YtmlopggainkoiaaDoorLX4
set_option linter.unusedSimpArgs false
set_option linter.unusedVariables false
namespace Go.Proofs.YtmlopggainkoiaaDoor
open Go.RowKit

def PB (d : Bool) (r : Int) : Bool := if d then isD r else isLD r
theorem PB_pos {d : Bool} {r : Int} (h : PB d r = true) : 0 ≤ r := by
  cases d
  · have := isLD_pos h; omega
  · have := isD_iff.1 h; omega
theorem PB_neg (d : Bool) : PB d (-1) = false := by cases d <;> decide
/-- The runes of a run from a place on. -/
def runT (d : Bool) (s : ByteArray) (i : Nat) : List Int := (items s i).takeWhile (PB d)
theorem takeWhile_mem {p : Int → Bool} : ∀ (l : List Int), ∀ x ∈ l.takeWhile p, p x = true
  | [], x, h => by simp at h
  | c :: l, x, h => by
    rw [List.takeWhile_cons] at h
    split at h
    · rcases List.mem_cons.1 h with rfl | h'
      · assumption
      · exact takeWhile_mem l x h'
    · cases h
theorem runT_all (d : Bool) (s : ByteArray) (i : Nat) : ∀ x ∈ runT d s i, PB d x = true := takeWhile_mem _
theorem runT_of {d : Bool} {s : ByteArray} {i j : Nat} {t : List Int} (h : items s i = t ++ items s j) (ht : ∀ x ∈ t, PB d x = true) (hn : ∀ c l, items s j = c :: l → PB d c = false) : runT d s i = t := by
  unfold runT; rw [h]; exact takeWhile_all ht hn
theorem runT_rest (d : Bool) (s : ByteArray) (i : Nat) : items s i = runT d s i ++ (items s i).dropWhile (PB d) := (List.takeWhile_append_dropWhile).symm
theorem atR_good {s : ByteArray} {i : Nat} (h : i < s.size) (hg : goodAt s i = true) : atR s i = Utf8.decode s i := by unfold atR; rw [if_pos ⟨h, hg⟩]
theorem atR_bad {s : ByteArray} {i : Nat} (hg : goodAt s i = false) : atR s i = (0, 0) := by unfold atR; rw [if_neg (by simp [hg])]
theorem atR_out {s : ByteArray} {i : Nat} (h : ¬ i < s.size) : atR s i = (0, 0) := by unfold atR; rw [if_neg (by omega)]
def RetRun (t : List Int) (w : World) (e : Ending) (w' : World) : Prop := e = .returned (.tuple #[.int .i64 ((runesBytes t).size : Nat), .int .i64 (t.length : Nat)]) ∧ w = w'

set_option maxRecDepth 100000 in
set_option maxHeartbeats 4000000 in
theorem run_any (d : Bool) (s : ByteArray) (i : Nat) (w : World) (hs : s.size ≤ 17179869184) (hi : i ≤ s.size) : Calls Tryd.prog 52 #[.string s, .int .i64 i, .bool d] w (RetRun (runT d s i) w) := by
  go_enter Tryd.func52, Tryd.ntmps52
  go_wp2_with fail
  go_loop [8, 9] (fun a b => ∃ (pos : Nat) (t : List Int), a = .int .i64 pos ∧ b = .int .i64 (t.length : Nat) ∧ (∀ x ∈ t, PB d x = true) ∧ items s i = t ++ items s pos ∧ pos = i + (runesBytes t).size ∧ pos ≤ s.size ∧ t.length ≤ pos) (fun a _ => s.size - (intOf a).toNat)
  case atStart => exact ⟨i, [], rfl, rfl, by simp, rfl, rfl, hi, by simp⟩
  case round =>
    obtain ⟨pos, t, rfl, rfl, ht, hit, hpos, hps, htl⟩ := hrel
    have HT := hide ht; have HIT := hide hit; have HP := hide hpos
    clear ht hit hpos
    have fin : (∀ c l, items s pos = c :: l → PB d c = false) → RetRun (runT d s i) w (.returned (.tuple #[.int .i64 ((pos : Int) - (i : Int)), .int .i64 (t.length : Nat)])) w := fun hn => by
      rw [runT_of HIT.out HT.out hn]
      refine ⟨?_, rfl⟩
      have := HP.out
      rw [show (pos : Int) - (i : Int) = (((runesBytes t).size : Nat) : Int) by omega]
    have FIN := hide fin; clear fin
    have hple : i ≤ pos := by have := HP.out; omega
    generalize htn : t.length = tn at htl FIN ⊢
    have HTN := hide htn; clear htn
    by_cases hp : pos < s.size
    · have HAT := hide (at_any s pos w (by omega) (by omega))
      cases hg : goodAt s pos
      · have hb := atR_bad hg
        rw [hb] at HAT
        have HI := hide (items_bad hp hg)
        clear hb hg
        go_wp2_with (first | (go_at_call 48; refine HAT.out.mono ?_; rintro e w' ⟨rfl, rfl⟩) | (go_at_call 54; (with_reducible refine (digit1_any _ _).mono ?_); rintro e w' ⟨rfl, rfl⟩) | (go_at_call 23; (with_reducible refine (letter1_any _ _).mono ?_); rintro e w' ⟨rfl, rfl⟩))
        go_ret2
        exact FIN.out (fun c l h => by rw [HI.out] at h; injection h with h1 _; rw [← h1]; exact PB_neg d)
      · have hb := atR_good hp hg
        rw [hb] at HAT
        have HI := hide (items_good hp hg)
        have HW := hide (Lib.decode_width_pos s pos hp); have HWL := hide (width_le hp)
        have HEW := hide (encode_width hp hg)
        clear hb hg
        generalize hr : (Utf8.decode s pos).1 = r at HAT HI HEW
        generalize hwd : (Utf8.decode s pos).2 = wd at HAT HI HW HWL HEW
        have HAT' := hide (show Calls Tryd.prog 48 #[.string s, .int .i64 pos] w (RetAt (r, wd) w) by rw [← hr, ← hwd]; exact HAT.out)
        clear hr hwd HAT
        have hw1 := HW.out; have hw2 := HWL.out
        have hwz : ((wd : Int) == 0) = false := by simp; omega
        have step : PB d r = true → ∃ (pos' : Nat) (t' : List Int), (Value.int .i64 ((pos : Int) + (wd : Int))) = .int .i64 pos' ∧ (Value.int .i64 ((tn : Int) + 1)) = .int .i64 (t'.length : Nat) ∧ (∀ x ∈ t', PB d x = true) ∧ items s i = t' ++ items s pos' ∧ pos' = i + (runesBytes t').size ∧ pos' ≤ s.size ∧ t'.length ≤ pos' := fun hpb => by
          refine ⟨pos + wd, t ++ [(r : Int)], by go_num, by rw [List.length_append, HTN.out]; go_num, fun x hx => ?_, by rw [HIT.out, HI.out]; simp, ?_, hw2, by rw [List.length_append, HTN.out]; simp; omega⟩
          · rcases List.mem_append.1 hx with h | h
            · exact HT.out x h
            · simp at h; rw [h]; exact hpb
          · rw [runesBytes_append, runesBytes_one, ByteArray.size_append, HEW.out]; have := HP.out; omega
        have STEP := hide step; clear step
        have FIN2 := hide (fun hpb : PB d r = false => FIN.out (fun c l h => by rw [HI.out] at h; injection h with h1 _; rw [← h1]; exact hpb))
        clear FIN
        cases hD : isD r
        · cases d
          · cases hL : isL r
            · have HF := hide (FIN2.out (by simp [PB, isLD, hL, hD]))
              clear FIN2 STEP
              go_wp2_with (first | (go_at_call 48; refine HAT'.out.mono ?_; rintro e w' ⟨rfl, rfl⟩) | (go_at_call 54; (with_reducible refine (digit1_any _ _).mono ?_); rintro e w' ⟨rfl, rfl⟩) | (go_at_call 23; (with_reducible refine (letter1_any _ _).mono ?_); rintro e w' ⟨rfl, rfl⟩))
              go_ret2
              exact HF.out
            · have HS := hide (STEP.out (by simp [PB, isLD, hL]))
              clear FIN2 STEP
              go_wp2_with (first | (go_at_call 48; refine HAT'.out.mono ?_; rintro e w' ⟨rfl, rfl⟩) | (go_at_call 54; (with_reducible refine (digit1_any _ _).mono ?_); rintro e w' ⟨rfl, rfl⟩) | (go_at_call 23; (with_reducible refine (letter1_any _ _).mono ?_); rintro e w' ⟨rfl, rfl⟩))
              go_round
              case rel => exact HS.out
              case measure => simp [intOf]; omega
          · have HF := hide (FIN2.out (by simp [PB, hD]))
            clear FIN2 STEP
            go_wp2_with (first | (go_at_call 48; refine HAT'.out.mono ?_; rintro e w' ⟨rfl, rfl⟩) | (go_at_call 54; (with_reducible refine (digit1_any _ _).mono ?_); rintro e w' ⟨rfl, rfl⟩) | (go_at_call 23; (with_reducible refine (letter1_any _ _).mono ?_); rintro e w' ⟨rfl, rfl⟩))
            go_ret2
            exact HF.out
        · have HS := hide (STEP.out (by cases d <;> simp [PB, isLD, hD]))
          clear FIN2 STEP
          go_wp2_with (first | (go_at_call 48; refine HAT'.out.mono ?_; rintro e w' ⟨rfl, rfl⟩) | (go_at_call 54; (with_reducible refine (digit1_any _ _).mono ?_); rintro e w' ⟨rfl, rfl⟩) | (go_at_call 23; (with_reducible refine (letter1_any _ _).mono ?_); rintro e w' ⟨rfl, rfl⟩))
          go_round
          case rel => exact HS.out
          case measure => simp [intOf]; omega
    · have HF := hide (FIN.out (fun c l h => by rw [items_end hp] at h; cases h))
      go_wp2_with fail
      go_ret2
      exact HF.out
end Go.Proofs.YtmlopggainkoiaaDoor
