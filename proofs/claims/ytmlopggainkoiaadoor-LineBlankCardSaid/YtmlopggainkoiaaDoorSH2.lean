/- Words as a text: the program's Show and the document's. -/
import Derived.Test.YtmlopggainkoiaaDoorSH1
import Derived.Test.YtmlopggainkoiaaDoorSB1
set_option linter.unusedSimpArgs false
set_option linter.unusedVariables false
namespace Go.Proofs.YtmlopggainkoiaaDoor
open Go.RowKit

/-- Words as a text; none: one may not be shown. 'fresh': at the head of a line. -/
def showF : Bool → List Word → ByteArray → Option ByteArray
  | _, [], out => some out
  | fresh, x :: l, out =>
    if rightW x = false then none
    else if x.kind = 4 then showF true l (out ++ ⟨#[10]⟩)
    else showF false l ((if fresh = true then out else out ++ ⟨#[32]⟩) ++ x.text)
theorem showF_cons (fresh : Bool) (x : Word) (l : List Word) (out : ByteArray) : showF fresh (x :: l) out = if rightW x = false then none
    else if x.kind = 4 then showF true l (out ++ ⟨#[10]⟩) else showF false l ((if fresh = true then out else out ++ ⟨#[32]⟩) ++ x.text) := rfl
def totL : List Word → Nat
  | [] => 0
  | x :: l => x.text.size + 1 + totL l
theorem totL_at {xs : List Word} {k : Nat} {x : Word} (h : xs[k]? = some x) : totL (xs.drop k) = x.text.size + 1 + totL (xs.drop (k + 1)) := by rw [drop_at h]; rfl
theorem totL_drop : ∀ (xs : List Word) (k : Nat), totL (xs.drop k) ≤ totL xs
  | [], k => by simp [totL]
  | x :: l, 0 => Nat.le_refl _
  | x :: l, k + 1 => by rw [List.drop_succ_cons]; have := totL_drop l k; simp only [totL]; omega
def showV : Option ByteArray → Array Value
  | none => #[.string ⟨#[]⟩, .int .i64 2]
  | some s => #[.string s, .int .i64 0]
def RetShow (r : Option ByteArray) (w : World) (e : Ending) (w' : World) : Prop := e = .returned (.tuple (showV r)) ∧ ∃ u : Ext, w' = w.ext u
theorem BdF.keep {B b : Nat} {bs : List Value} {w w' : World} (h : BdF B b bs w) (hk : ∀ k, k < w.heap.size → w'.heap[k]? = w.heap[k]?) : BdF B b bs w' := by
  have key : ∀ pv, Lib.BuilderAtF 86 5 B b pv bs w → Lib.BuilderAtF 86 5 B b pv bs w' := fun pv ⟨hB, v, hb, ⟨hl, hown⟩, hne⟩ => by
    refine ⟨hB, v, (hk b (Array.getElem?_eq_some_iff.1 hb).1).trans hb, ⟨hl, ?_⟩, hne⟩
    rcases hown with h | ⟨g, cap, cur, fz, hv, hg, hh, rest⟩
    · exact .inl h
    · exact .inr ⟨g, cap, cur, fz, hv, hg, (hk g (Array.getElem?_eq_some_iff.1 hh).1).trans hh, rest⟩
  rcases h with h | h
  · exact .inl (key _ h)
  · exact .inr (key _ h)
theorem BdF.lt {B b : Nat} {bs : List Value} {w : World} (h : BdF B b bs w) : b < w.heap.size := by
  rcases h with ⟨_, v, hb, _⟩ | ⟨_, v, hb, _⟩ <;> exact (Array.getElem?_eq_some_iff.1 hb).1
theorem bytes_add (a : ByteArray) (c : UInt8) : Lib.byteCells a.data.toList ++ [.int .u8 (c.toNat : Nat)] = Lib.byteCells (a ++ ⟨#[c]⟩).data.toList := by
  simp [Lib.byteCells]
theorem bytes_app (a b : ByteArray) : Lib.byteCells a.data.toList ++ Lib.strCells b = Lib.byteCells (a ++ b).data.toList := by
  rw [Lib.strCells_eq, ← Lib.byteCells_append]; simp

set_option maxRecDepth 100000 in
set_option maxHeartbeats 40000000 in
theorem show_any (w : World) (S : Nat → Prop) (A : Option Addr) (n c : Nat) (xs : List Word) (h : Sl w S A n c xs) (hv : VarsS w) (ht : totL xs ≤ 8589934592) : Calls Tryd.prog 19 #[.slice A n c] w (RetShow (showF true xs ByteArray.empty) w) := by
  have hn := h.nle
  have HS := hide h; have HV := hide hv; have HT := hide ht
  have H7 := hide hv.v.sz
  clear h hv ht
  obtain ⟨R0, hR0⟩ : ∃ R0, showF true xs ByteArray.empty = R0 := ⟨_, rfl⟩
  rw [hR0]
  have HR0 := hide hR0; clear hR0
  go_enter Tryd.func19, Tryd.ntmps19
  go_wp2_with fail
  go_loopw [5, 10] (fun a b wr => ∃ (k : Nat) (fresh : Bool) (acc : ByteArray), a = .bool fresh ∧ b = .int .i64 k ∧ k ≤ n ∧ BdF w.heap.size w.heap.size (Lib.byteCells acc.data.toList) wr ∧ Below w.heap.size w wr ∧ showF fresh (xs.drop k) acc = R0 ∧ acc.size + totL (xs.drop k) ≤ 8589934592) (fun _ b _ => n - (intOf b).toNat)
  case atStart =>
    exact ⟨0, true, ByteArray.empty, rfl, rfl, Nat.zero_le _, Lib.IsBuilderF.of (Lib.fresh_isBuilder 86 5 w), (Below.refl _ w).alloc (Nat.le_refl _) _, HR0.out, by have := HT.out; simpa using this⟩
  case round =>
    obtain ⟨k, fresh, acc, rfl, rfl, hk, hbd, hbw, hsh, hsz⟩ := hrel
    have HBD := hide hbd; have HB := hide hbw; have HSH := hide hsh; have HSZ := hide hsz
    have hwr : w.heap.size < wr.heap.size := hbd.lt
    clear hbd hbw hsh hsz
    by_cases hlt : k < n
    · obtain ⟨b, off, x, rfl, hb, hx, i0, i1, i2, i3, i4, c0, c1, c2, c3, c4⟩ := at_Word (HS.out.belowAll HB.out) hlt
      have HD := hide (drop_at hx); have HTT := hide (totL_at hx)
      obtain ⟨kd, tx, nn, ln, cl⟩ := x
      simp only at i0 i1 i2 i3 i4 c0 c1 c2 c3 c4
      have HI2 := hide i2
      clear hx i0 i1 i2 i3 i4
      obtain ⟨W1, hW1⟩ : ∃ W1, wr.alloc (.cells #[.int .i64 kd, .string tx, .int .i64 nn, .int .i64 ln, .int .i64 cl] 31) = W1 := ⟨_, rfl⟩
      have HW1 := hide hW1
      have HTX := hide (show tx.size ≤ 8589934592 by have := HSZ.out; rw [HTT.out] at this; simp only at this; omega)
      have HRI := hide (right_any ⟨kd, tx, nn, ln, cl⟩ W1 (by rw [← hW1]; exact (HV.out.below HB.out H7.out).alloc _) HI2.out (by have := HTX.out; simp only; omega))
      simp only at HRI
      have HBW1 := hide (show Below w.heap.size w W1 by rw [← hW1]; exact HB.out.alloc (by omega) _)
      have HBD1 := hide (show BdF w.heap.size w.heap.size (Lib.byteCells acc.data.toList) W1 by rw [← hW1]; exact HBD.out.keep fun k hk => Below.heap_alloc wr _ k hk)
      have HBK1 := hide (show W1.heap[wr.heap.size]? = some (.cells #[.int .i64 kd, .string tx, .int .i64 nn, .int .i64 ln, .int .i64 cl] 31 (0, 0)) by rw [← hW1]; exact heap_alloc_new wr _)
      have z0 : W1.cell? ⟨wr.heap.size, 0, none⟩ = some (.int .i64 kd) := cell_of_row W1 _ _ _ _ (0, 0) HBK1.out
      have z1 : W1.cell? ⟨wr.heap.size, 1, none⟩ = some (.string tx) := cell_of_row W1 _ _ _ _ (0, 0) HBK1.out
      have z2 : W1.cell? ⟨wr.heap.size, 2, none⟩ = some (.int .i64 nn) := cell_of_row W1 _ _ _ _ (0, 0) HBK1.out
      have z3 : W1.cell? ⟨wr.heap.size, 3, none⟩ = some (.int .i64 ln) := cell_of_row W1 _ _ _ _ (0, 0) HBK1.out
      have z4 : W1.cell? ⟨wr.heap.size, 4, none⟩ = some (.int .i64 cl) := cell_of_row W1 _ _ _ _ (0, 0) HBK1.out
      have hlt1 : wr.heap.size < W1.heap.size := (Array.getElem?_eq_some_iff.1 HBK1.out).1
      have HSF := hide (showF_cons fresh ⟨kd, tx, nn, ln, cl⟩ (xs.drop (k + 1)) acc)
      simp only at HSF
      obtain ⟨rt, hrt⟩ : ∃ rt, rightW ⟨kd, tx, nn, ln, cl⟩ = rt := ⟨_, rfl⟩
      rw [hrt] at HRI HSF; clear hrt
      have HSTEP := hide (show ∀ r, showF fresh (⟨kd, tx, nn, ln, cl⟩ :: xs.drop (k + 1)) acc = r → R0 = r from fun r hr => by rw [← HSH.out, HD.out]; exact hr)
      have HLEN := hide (show acc.size + (tx.size + 1 + totL (xs.drop (k + 1))) ≤ 8589934592 by have := HSZ.out; rw [HTT.out] at this; exact this)
      rw [HSF.out] at HSTEP
      clear HSF HSZ HTT HSH

      cases rt
      · go_wp2_with (first | (go_at_call 55; refine HRI.out.mono ?_; rintro e _ ⟨rfl, u1, rfl⟩; refine Hd.out ?_))
        refine hide ?_
        go_wp2_with fail
        go_ret2
        have e := HSTEP.out none (if_pos (by trivial))
        rw [e]
        exact ⟨rfl, (HBW1.out.ext HBW1.out.size u1).to_ext⟩
      · have HX := hide (show ∀ u : Ext, BdF w.heap.size w.heap.size (Lib.byteCells acc.data.toList) (W1.ext u) from fun u => HBD1.out.keep fun k hk => ext_block W1 u k hk)
        have HLA := hide (show (Lib.byteCells acc.data.toList).length = acc.size by rw [Lib.byteCells_length, size_list])
        have HBE := hide (show ∀ u : Ext, Below w.heap.size w (W1.ext u) from fun u => HBW1.out.ext HBW1.out.size u)
        by_cases h4 : kd = 4
        · subst h4
          have HS4 := hide (HSTEP.out _ (show _ = showF true (xs.drop (k + 1)) (acc ++ ⟨#[10]⟩) by rw [if_neg (by decide), if_pos rfl]))
          go_wp2_with (first | (go_at_call 55; refine HRI.out.mono ?_; rintro e _ ⟨rfl, u1, rfl⟩; refine Hd.out ?_))
          refine hide ?_
          have HWB := hide (writeByte_any w.heap.size w.heap.size _ 10 (W1.ext u1) (HX.out u1) (by rw [HLA.out]; have := HLEN.out; omega) (HBE.out u1).size)
          go_wp2_with (first | (go_at_call 56; refine HWB.out.mono ?_; rintro e w2 ⟨rfl, hb2, hbl2, hok2⟩; refine Hd.out ?_))
          refine hide ?_
          have HK2 := hide (hok2 wr.heap.size _ ((ext_block W1 u1 _ hlt1).trans HBK1.out) (fun e => by injection e with e; omega) (fun c fz h => by injection h with _ h2 _; exact absurd h2 (by decide)))
          have y0 : w2.cell? ⟨wr.heap.size, 0, none⟩ = some (.int .i64 4) := cell_of_row w2 _ _ _ _ (0, 0) HK2.out
          have y1 : w2.cell? ⟨wr.heap.size, 1, none⟩ = some (.string tx) := cell_of_row w2 _ _ _ _ (0, 0) HK2.out
          have lt2 : wr.heap.size < w2.heap.size := (Array.getElem?_eq_some_iff.1 HK2.out).1
          have HB2 := hide hb2; have HBL2 := hide ((HBE.out u1).trans hbl2)
          clear hb2 hbl2 hok2 HWB
          go_wp2_with fail
          go_roundw
          case rel => exact ⟨k + 1, true, acc ++ ⟨#[10]⟩, rfl, by go_num, by omega, by rw [← bytes_add]; exact HB2.out, HBL2.out, HS4.out.symm, by have := HLEN.out; rw [ByteArray.size_append]; show acc.size + 1 + _ ≤ _; omega⟩
          case measure => simp [intOf]; omega
        · have k4 : (kd == 4) = false := by simpa using h4
          cases fresh
          · have HS4 := hide (HSTEP.out _ (show _ = showF false (xs.drop (k + 1)) ((acc ++ ⟨#[32]⟩) ++ tx) by rw [if_neg (by decide), if_neg h4, if_neg (by decide)]))
            clear h4
            go_wp2_with (first | (go_at_call 55; refine HRI.out.mono ?_; rintro e _ ⟨rfl, u1, rfl⟩; refine Hd.out ?_))
            refine hide ?_
            have HWB := hide (writeByte_any w.heap.size w.heap.size _ 32 (W1.ext u1) (HX.out u1) (by rw [HLA.out]; have := HLEN.out; omega) (HBE.out u1).size)
            go_wp2_with (first | (go_at_call 56; refine HWB.out.mono ?_; rintro e w2 ⟨rfl, hb2, hbl2, hok2⟩; refine Hd.out ?_))
            refine hide ?_
            have HK2 := hide (hok2 wr.heap.size _ ((ext_block W1 u1 _ hlt1).trans HBK1.out) (fun e => by injection e with e; omega) (fun c fz h => by injection h with _ h2 _; exact absurd h2 (by decide)))
            have y0 : w2.cell? ⟨wr.heap.size, 0, none⟩ = some (.int .i64 kd) := cell_of_row w2 _ _ _ _ (0, 0) HK2.out
            have y1 : w2.cell? ⟨wr.heap.size, 1, none⟩ = some (.string tx) := cell_of_row w2 _ _ _ _ (0, 0) HK2.out
            have lt2 : wr.heap.size < w2.heap.size := (Array.getElem?_eq_some_iff.1 HK2.out).1
            have HB2 := hide hb2; have HBL2 := hide ((HBE.out u1).trans hbl2)
            clear hb2 hbl2 hok2 HWB
            have HWS := hide (writeString_any w.heap.size w.heap.size _ tx (w2) (HB2.out) (by rw [List.length_append, HLA.out]; have := HLEN.out; simp; omega) (HBL2.out).size)
            go_wp2_with (first | (go_at_call 57; refine HWS.out.mono ?_; rintro e w3 ⟨rfl, hb3, hbl3, hok3⟩; refine Hd.out ?_))
            refine hide ?_
            have HK3 := hide (hok3 wr.heap.size _ (HK2.out) (fun e => by injection e with e; omega) (fun c fz h => by injection h with _ h2 _; exact absurd h2 (by decide)))
            have x0 : w3.cell? ⟨wr.heap.size, 0, none⟩ = some (.int .i64 kd) := cell_of_row w3 _ _ _ _ (0, 0) HK3.out
            have lt3 : wr.heap.size < w3.heap.size := (Array.getElem?_eq_some_iff.1 HK3.out).1
            have HB3 := hide hb3; have HBL3 := hide ((HBL2.out).trans hbl3)
            clear hb3 hbl3 hok3 HWS
            go_wp2_with fail
            go_roundw
            case rel => exact ⟨k + 1, false, (acc ++ ⟨#[32]⟩) ++ tx, rfl, by go_num, by omega, by rw [← bytes_app]; rw [← bytes_add]; exact HB3.out, HBL3.out, HS4.out.symm, by have := HLEN.out; simp only [ByteArray.size_append]; show acc.size + 1 + _ + _ ≤ _; omega⟩
            case measure => simp [intOf]; omega
          · have HS4 := hide (HSTEP.out _ (show _ = showF false (xs.drop (k + 1)) (acc ++ tx) by rw [if_neg (by decide), if_neg h4, if_pos rfl]))
            clear h4
            go_wp2_with (first | (go_at_call 55; refine HRI.out.mono ?_; rintro e _ ⟨rfl, u1, rfl⟩; refine Hd.out ?_))
            refine hide ?_
            have HWS := hide (writeString_any w.heap.size w.heap.size _ tx (W1.ext u1) (HX.out u1) (by rw [HLA.out]; have := HLEN.out; omega) (HBE.out u1).size)
            go_wp2_with (first | (go_at_call 57; refine HWS.out.mono ?_; rintro e w3 ⟨rfl, hb3, hbl3, hok3⟩; refine Hd.out ?_))
            refine hide ?_
            have HK3 := hide (hok3 wr.heap.size _ ((ext_block W1 u1 _ hlt1).trans HBK1.out) (fun e => by injection e with e; omega) (fun c fz h => by injection h with _ h2 _; exact absurd h2 (by decide)))
            have x0 : w3.cell? ⟨wr.heap.size, 0, none⟩ = some (.int .i64 kd) := cell_of_row w3 _ _ _ _ (0, 0) HK3.out
            have lt3 : wr.heap.size < w3.heap.size := (Array.getElem?_eq_some_iff.1 HK3.out).1
            have HB3 := hide hb3; have HBL3 := hide ((HBE.out u1).trans hbl3)
            clear hb3 hbl3 hok3 HWS
            go_wp2_with fail
            go_roundw
            case rel => exact ⟨k + 1, false, acc ++ tx, rfl, by go_num, by omega, by rw [← bytes_app]; skip; exact HB3.out, HBL3.out, HS4.out.symm, by have := HLEN.out; simp only [ByteArray.size_append]; omega⟩
            case measure => simp [intOf]; omega
    · have HEND := hide (show R0 = some acc by rw [← HSH.out, drop_end HS.out.len hlt]; rfl)
      have HST := hide (Tryd.Builder_String_any_k w.heap.size w.heap.size acc.data.toList wr HBD.out (by omega))
      go_wp2_with (first | (go_at_call 58; refine HST.out.mono ?_; rintro e w2 ⟨rfl, _, hbl2, _⟩; refine Hd.out ?_))
      refine hide ?_
      go_wp2_with fail
      go_ret2
      rw [HEND.out]
      refine ⟨?_, (HB.out.trans hbl2).to_ext⟩
      show Ending.returned (.tuple #[.string ⟨acc.data.toList.toArray⟩, .int .i64 0]) = Ending.returned (.tuple #[.string acc, .int .i64 0])
      rw [show (⟨acc.data.toList.toArray⟩ : ByteArray) = acc by cases acc; simp]
end Go.Proofs.YtmlopggainkoiaaDoor
